/- Texts of this proof, gathered. What each part says stands at its head; conditions: none but those that its theorems name. -/
import Derived.Test.YtongccpmdndcgaaE3
import Derived.Shelf.SlSortCmp.NoneTotal
import Derived.Deep.Strs
import Derived.DataReads
/- Symbolic runs of the evaluator: a run's success with what holds behind it, one operation at a time. -/
section
set_option linter.all false
namespace Go.AE
variable {P : Program} {call : CallF} {n : Nat} {gs : List Nat} {orc : Orc}

/-- x comes to something that Q takes. -/
def W {α : Type} (x : Option α) (Q : α → Prop) : Prop := ∃ r, x = some r ∧ Q r
@[simp] theorem W_some {α : Type} (r : α) (Q : α → Prop) : W (some r) Q = Q r := by simp [W]
@[simp] theorem W_none {α : Type} (Q : α → Prop) : W (none : Option α) Q = False := by simp [W]
theorem W.mono {α : Type} {x : Option α} {Q R : α → Prop} (h : W x Q) (k : ∀ r, Q r → R r) : W x R := by obtain ⟨r, h1, h2⟩ := h; exact ⟨r, h1, k r h2⟩
@[congr] theorem W_congr {α : Type} {x y : Option α} {Q : α → Prop} (h : x = y) : W x Q = W y Q := by rw [h]

/-! What is left behind a piece. -/
def KSeq (P : Program) (call : CallF) (n : Nat) (b : Code) (Q : AExit × AFr × AHeap → Prop) : AExit × AFr × AHeap → Prop
  | (.normal, fr, σ) => W (exec P call n b fr σ) Q
  | r => Q r
def KBlk (id : Nat) (Q : AExit × AFr × AHeap → Prop) : AExit × AFr × AHeap → Prop
  | (.exit id', fr, σ) => if id' = id then Q (.normal, fr, σ) else Q (.exit id', fr, σ)
  | r => Q r
def KReg (Q : AExit × AFr × AHeap → Prop) : AFr × AHeap → Prop := fun r => Q (.normal, r.1, r.2)
def KOp (P : Program) (call : CallF) (all rest : List Oper) (d : Option Tmp) (fr : AFr) (K : AFr × AHeap → Prop) : Value × AHeap → Prop := fun r => W (runOps P call all rest (fr.put d r.1) r.2) K
def KRet (P : Program) (fn : Func) (Q : Value × AHeap → Prop) : AExit × AFr × AHeap → Prop
  | (.exit _, _, _) => False
  | (_, fr, σ) => W (results' P fn fr σ) fun v => Q (v, σ)
/-- A test. -/
def Wc (P : Program) (call : CallF) (n : Nat) (v : Value) (a b : Code) (fr : AFr) (σ : AHeap) (Q : AExit × AFr × AHeap → Prop) : Prop := match v with
  | .bool true => W (exec P call n a fr σ) Q
  | .bool false => W (exec P call n b fr σ) Q
  | _ => False

theorem W_skip {fr : AFr} {σ : AHeap} {Q} : W (exec P call n .skip fr σ) Q = Q (.normal, fr, σ) := by simp [exec]
theorem W_ret {fr : AFr} {σ : AHeap} {Q} : W (exec P call n .ret fr σ) Q = Q (.ret, fr, σ) := by simp [exec]
theorem W_exit {i : Nat} {fr : AFr} {σ : AHeap} {Q} : W (exec P call n (.exit i) fr σ) Q = Q (.exit i, fr, σ) := by simp [exec]
theorem W_scope {b : Code} {fr : AFr} {σ : AHeap} {Q} : W (exec P call n (.scope b) fr σ) Q = W (exec P call n b fr σ) Q := by simp [exec]
theorem W_seq {a b : Code} {fr : AFr} {σ : AHeap} {Q} : W (exec P call n (.seq a b) fr σ) Q = W (exec P call n a fr σ) (KSeq P call n b Q) := by
  rw [exec]
  cases h : exec P call n a fr σ with
  | none => simp
  | some r => obtain ⟨e, f, s⟩ := r; cases e <;> simp [KSeq]
theorem W_block {id : Nat} {b : Code} {fr : AFr} {σ : AHeap} {Q} : W (exec P call n (.block id b) fr σ) Q = W (exec P call n b fr σ) (KBlk id Q) := by
  rw [exec]
  cases h : exec P call n b fr σ with
  | none => simp
  | some r =>
    obtain ⟨e, f, s⟩ := r
    cases e with
    | exit i =>
      by_cases q : i = id
      · subst q; simp [KBlk, Nat.beq_refl]
      · have : i.beq id = false := Bool.eq_false_iff.2 fun h => q (Nat.eq_of_beq_eq_true h)
        simp [KBlk, this, q]
    | _ => simp [KBlk]
theorem W_cond {c : Operand} {a b : Code} {fr : AFr} {σ : AHeap} {Q} : W (exec P call n (.cond c a b) fr σ) Q = Wc P call n (fr.eval c) a b fr σ Q := by
  rw [exec]
  generalize fr.eval c = v
  cases v with
  | bool b => cases b <;> rfl
  | _ => exact W_none Q
theorem W_region {id : Nat} {ops : Array Oper} {fr : AFr} {σ : AHeap} {Q} : W (exec P call n (.region id ops false) fr σ) Q = W (runOps P call ops.toList ops.toList fr σ) (KReg Q) := by
  simp only [exec, region']
  cases h : runOps P call ops.toList ops.toList fr σ with
  | none => simp
  | some r => simp [KReg]
theorem W_ops_nil {all : List Oper} {fr : AFr} {σ : AHeap} {K} : W (runOps P call all [] fr σ) K = K (fr, σ) := by simp [runOps]
theorem W_ops {all rest : List Oper} {d : Option Tmp} {op : Op} {ty : TypeId} {pos : String} {af : Array Edge} {fr : AFr} {σ : AHeap} {K} :
    W (runOps P call all (⟨d, op, ty, pos, af, none⟩ :: rest) fr σ) K = W (aop P call ⟨d, op, ty, pos, af, none⟩ fr σ) (KOp P call all rest d fr K) := by
  rw [runOps]
  simp only [wanted']
  cases h : aop P call ⟨d, op, ty, pos, af, none⟩ fr σ with
  | none => simp
  | some r => simp [KOp]
def Gd (all : List Oper) (j : Nat) (fr : AFr) : Value := match all[j]? with
  | some o => match o.dst with
    | some d => fr.at_ d
    | none => undef
  | none => undef
def Wg (v : Value) (want : Bool) (A B : Prop) : Prop := match v with
  | .bool b => if b = want then A else B
  | _ => B
@[simp] theorem Wg_bool {b want : Bool} {A B : Prop} : Wg (.bool b) want A B = if b = want then A else B := rfl
/-- A guarded operation, its guard told. -/
def WGo (P : Program) (call : CallF) (all rest : List Oper) (o : Oper) (want : Bool) (fr : AFr) (σ : AHeap) (K : AFr × AHeap → Prop) (v : Value) : Prop := Wg v want (W (aop P call o fr σ) (KOp P call all rest o.dst fr K)) (W (runOps P call all rest (fr.put o.dst undef) σ) K)
theorem WGo_tt {all rest : List Oper} {o : Oper} {fr : AFr} {σ : AHeap} {K} : WGo P call all rest o true fr σ K (.bool true) = W (aop P call o fr σ) (KOp P call all rest o.dst fr K) := rfl
theorem WGo_ff {all rest : List Oper} {o : Oper} {fr : AFr} {σ : AHeap} {K} : WGo P call all rest o false fr σ K (.bool false) = W (aop P call o fr σ) (KOp P call all rest o.dst fr K) := rfl
theorem WGo_tf {all rest : List Oper} {o : Oper} {fr : AFr} {σ : AHeap} {K} : WGo P call all rest o true fr σ K (.bool false) = W (runOps P call all rest (fr.put o.dst undef) σ) K := rfl
theorem WGo_ft {all rest : List Oper} {o : Oper} {fr : AFr} {σ : AHeap} {K} : WGo P call all rest o false fr σ K (.bool true) = W (runOps P call all rest (fr.put o.dst undef) σ) K := rfl
theorem WGo_un {all rest : List Oper} {o : Oper} {want : Bool} {fr : AFr} {σ : AHeap} {K} : WGo P call all rest o want fr σ K undef = W (runOps P call all rest (fr.put o.dst undef) σ) K := rfl
theorem W_ops_guard {all rest : List Oper} {d : Option Tmp} {op : Op} {ty : TypeId} {pos : String} {af : Array Edge} {j : Nat} {want : Bool} {fr : AFr} {σ : AHeap} {K} :
    W (runOps P call all (⟨d, op, ty, pos, af, some (j, want)⟩ :: rest) fr σ) K = WGo P call all rest ⟨d, op, ty, pos, af, some (j, want)⟩ want fr σ K (Gd all j fr) := by
  have key : wanted' all fr ⟨d, op, ty, pos, af, some (j, want)⟩ = (match Gd all j fr with | .bool b => b == want | _ => false) := by
    show (match yields all fr j with | some b => b == want | none => false) = _
    unfold yields Gd
    cases all[j]? with
    | none => rfl
    | some o =>
      cases hd : o.dst with
      | none => simp only [hd, undef]
      | some dd => simp only [hd]; cases fr.at_ dd <;> rfl
  unfold WGo
  rw [runOps, key]
  generalize Gd all j fr = v
  unfold Wg
  cases v with
  | bool b =>
    by_cases hb : b = want
    · subst hb
      simp only [beq_self_eq_true, if_true]
      cases h : aop P call ⟨d, op, ty, pos, af, some (j, b)⟩ fr σ with
      | none => simp
      | some r => simp [KOp]
    · have : (b == want) = false := by simpa using hb
      simp only [this, if_neg hb]
  | _ => rfl
theorem KSeq_normal {b : Code} {fr : AFr} {σ : AHeap} {Q} : KSeq P call n b Q (.normal, fr, σ) = W (exec P call n b fr σ) Q := rfl
theorem KSeq_exit {b : Code} {i : Nat} {fr : AFr} {σ : AHeap} {Q} : KSeq P call n b Q (.exit i, fr, σ) = Q (.exit i, fr, σ) := rfl
theorem KSeq_ret {b : Code} {fr : AFr} {σ : AHeap} {Q} : KSeq P call n b Q (.ret, fr, σ) = Q (.ret, fr, σ) := rfl
theorem KBlk_normal {id : Nat} {fr : AFr} {σ : AHeap} {Q} : KBlk id Q (.normal, fr, σ) = Q (.normal, fr, σ) := rfl
theorem KBlk_ret {id : Nat} {fr : AFr} {σ : AHeap} {Q} : KBlk id Q (.ret, fr, σ) = Q (.ret, fr, σ) := rfl
theorem KBlk_exit {id i : Nat} {fr : AFr} {σ : AHeap} {Q} : KBlk id Q (.exit i, fr, σ) = if i = id then Q (.normal, fr, σ) else Q (.exit i, fr, σ) := rfl
theorem KReg_mk {fr : AFr} {σ : AHeap} {Q} : KReg Q (fr, σ) = Q (.normal, fr, σ) := rfl
theorem KOp_mk {all rest : List Oper} {d : Option Tmp} {fr : AFr} {K} {v : Value} {σ : AHeap} : KOp P call all rest d fr K (v, σ) = W (runOps P call all rest (fr.put d v) σ) K := rfl
theorem KRet_normal {fn : Func} {fr : AFr} {σ : AHeap} {Q} : KRet P fn Q (.normal, fr, σ) = W (results' P fn fr σ) fun v => Q (v, σ) := rfl
theorem KRet_ret {fn : Func} {fr : AFr} {σ : AHeap} {Q} : KRet P fn Q (.ret, fr, σ) = W (results' P fn fr σ) fun v => Q (v, σ) := rfl
theorem Wc_true {a b : Code} {fr : AFr} {σ : AHeap} {Q} : Wc P call n (.bool true) a b fr σ Q = W (exec P call n a fr σ) Q := rfl
theorem Wc_false {a b : Code} {fr : AFr} {σ : AHeap} {Q} : Wc P call n (.bool false) a b fr σ Q = W (exec P call n b fr σ) Q := rfl

theorem W_acall {f : FuncId} {fn : Func} {c : Code} {args : List Value} {σ : AHeap} {Q} (hf : P.funcs[f]? = some fn) (hb : fn.body = some c) (hk : codeOk gs c = true) (ho : orc f = none) :
    W (acall P gs orc (n + 1) f args σ) Q = W (exec P (acall P gs orc n) n c ⟨max fn.ntmps args.length, Tr.ofList args 0 .leaf⟩ σ) (KRet P fn Q) := by
  rw [acall]
  simp only [ho, hf, hb, hk]
  cases h : exec P (acall P gs orc n) n c ⟨max fn.ntmps args.length, Tr.ofList args 0 .leaf⟩ σ with
  | none => simp
  | some r =>
    obtain ⟨e, f, s⟩ := r
    cases e with
    | exit i => simp [KRet]
    | _ =>
      simp only [W_some, KRet]
      cases results' P fn f s <;> simp

/-! Loops. -/
theorem W_loop {body : Code} (I : Nat → AFr → AHeap → Prop) {Q : AExit × AFr × AHeap → Prop} {k : Nat}
    (hs : ∀ k fr σ, I k fr σ → W (exec P call n body fr σ) fun r => match r with | (.normal, fr', σ') => ∃ k', k' < k ∧ I k' fr' σ' | r => Q r) : ∀ (m k : Nat), k < m → ∀ fr σ, I k fr σ → W (loopN (exec P call n body) m fr σ) Q
  | 0, k, h, _, _, _ => by omega
  | m + 1, k, h, fr, σ, hi => by
    obtain ⟨r, h1, h2⟩ := hs k fr σ hi
    rw [loopN, h1]
    obtain ⟨e, fr', σ'⟩ := r
    cases e with
    | normal =>
      obtain ⟨k', hk, hi'⟩ := h2
      exact W_loop I (k := k) hs m k' (by omega) fr' σ' hi'
    | _ => simpa using h2
theorem W_loop_exec {body : Code} {fr : AFr} {σ : AHeap} {Q : AExit × AFr × AHeap → Prop} (I : Nat → AFr → AHeap → Prop) (k : Nat) (hk : k < n) (hi : I k fr σ)
    (hs : ∀ k fr σ, I k fr σ → W (exec P call n body fr σ) fun r => match r with | (.normal, fr', σ') => ∃ k', k' < k ∧ I k' fr' σ' | r => Q r) : W (exec P call n (.loop body) fr σ) Q := by
  rw [exec]; exact W_loop I (k := k) hs n k hk fr σ hi

/-! Frames. -/
theorem eval_tmp {fr : AFr} {t : Nat} : fr.eval (.tmp t) = fr.at_ t := rfl
theorem eval_const {fr : AFr} {v : Value} : fr.eval (.const v) = v := rfl
theorem eval_func {fr : AFr} {f : FuncId} : fr.eval (.func f) = .func (.func f) #[] #[] := rfl
theorem put_none {fr : AFr} {v : Value} : fr.put none v = fr := rfl
theorem put_mk {m : Nat} {t : Tr Value} {d : Nat} {v : Value} : AFr.put ⟨m, t⟩ (some d) v = if d < m then ⟨m, t.put d (some v)⟩ else ⟨m, t⟩ := by
  simp only [AFr.put]
  by_cases h : d < m
  · rw [show d.blt m = true from Nat.ble_eq_true_of_le h, if_pos h]
  · rw [show d.blt m = false from Bool.eq_false_iff.2 fun q => h (Nat.le_of_ble_eq_true q), if_neg h]
theorem at_mk {m : Nat} {t : Tr Value} {d : Nat} : AFr.at_ ⟨m, t⟩ d = (t.get d).getD undef := rfl
theorem get_put {t : Tr Value} {d k : Nat} {x : Option Value} : (t.put d x).get k = if k = d then x else t.get k := Tr.get_put _ _ _ _
theorem get_args {l : List Value} {k : Nat} : (Tr.ofList l 0 .leaf).get k = l[k]? := Tr.get_of l k

/-! Operations. -/
def loadV (P : Program) (t : TypeId) (v : Value) (σ : AHeap) : Option (Value × AHeap) := match v with
  | .pointer (some ⟨b, off, none⟩) => (ldVar P t σ b off).map (·, σ)
  | _ => none
def storeV (P : Program) (t : TypeId) (a v : Value) (σ : AHeap) : Option (Value × AHeap) := match a with
  | .pointer (some ⟨b, off, none⟩) => match sizeOf' P t with
    | some n => if v.cells.size = n then (stCells σ b off v.cells.toList).map fun σ => (undef, σ) else none
    | none => none
  | _ => none
def nilV (v : Value) : Option Value := match v with
  | .pointer (some a) => some (.pointer (some a))
  | .iface t v => some (.iface t v)
  | .func (.func f) a b => some (.func (.func f) a b)
  | .func (.methodOf t n) a b => some (.func (.methodOf t n) a b)
  | .func (.via t p f q) a b => some (.func (.via t p f q) a b)
  | _ => none
def pickV (c a b : Value) : Option Value := match c with
  | .bool true => some a
  | .bool false => some b
  | _ => none
def allocV (P : Program) (e : TypeId) (σ : AHeap) : Option (Value × AHeap) := match zeroOf P e with
  | some z => some (ptr σ.next 0, (newCells σ e z.cells.toList).2)
  | none => none
def ifaceV (P : Program) (t : TypeId) (v : Value) : Option Value := match P.underlying t with
  | some (.interface _) => none
  | some _ => some (.iface t v)
  | none => none
def extV (v : Value) (i : Nat) : Option Value := match v with
  | .tuple vs => vs[i]?
  | _ => none
def withH (σ : AHeap) : Option Value → Option (Value × AHeap)
  | some v => some (v, σ)
  | none => none
@[simp] theorem withH_some {σ : AHeap} {v : Value} : withH σ (some v) = some (v, σ) := rfl
theorem withH_map {σ : AHeap} {x : Option Value} : x.map (·, σ) = withH σ x := by cases x <;> rfl
def callV (P : Program) (call : CallF) (v : Value) (args : List Value) (σ : AHeap) : Option (Value × AHeap) := match v with
  | .func (.func f) first captured => match enters P f with
    | true => call f (first.toList ++ args ++ captured.toList) σ
    | false => none
  | _ => none
def invokeV (P : Program) (call : CallF) (v : Value) (name : String) (args : List Value) (σ : AHeap) : Option (Value × AHeap) := match v with
  | .iface t v => match method' P 4 t v name σ with
    | some (f, r) => match enters P f with
      | true => call f (r :: args) σ
      | false => none
    | none => none
  | _ => none
section
variable {d : Option Tmp} {ty : TypeId} {pos : String} {af : Array Edge} {g : Option (Nat × Bool)} {fr : AFr} {σ : AHeap}
theorem aop_move {x : Operand} : aop P call ⟨d, .move x, ty, pos, af, g⟩ fr σ = some (fr.eval x, σ) := rfl
theorem aop_assign {x : Operand} : aop P call ⟨d, .assign x, ty, pos, af, g⟩ fr σ = some (fr.eval x, σ) := rfl
theorem aop_pick {c a b : Operand} : aop P call ⟨d, .pick c a b, ty, pos, af, g⟩ fr σ = withH σ (pickV (fr.eval c) (fr.eval a) (fr.eval b)) := by
  simp only [aop, pickV]; generalize fr.eval c = v; cases v with
  | bool b => cases b <;> rfl
  | _ => rfl
theorem aop_alloc {e : TypeId} : aop P call ⟨d, .alloc e, ty, pos, af, g⟩ fr σ = allocV P e σ := by
  simp only [aop, allocV]; cases zeroOf P e <;> rfl
theorem aop_box {e : TypeId} {x : Operand} : aop P call ⟨d, .box e x, ty, pos, af, g⟩ fr σ = some (ptr σ.next 0, (newCells σ e (fr.eval x).cells.toList).2) := rfl
theorem aop_build {t : TypeId} {ps : Array (Nat × Operand)} : aop P call ⟨d, .build t ps, ty, pos, af, g⟩ fr σ = withH σ (build' P t (ps.toList.map fun (i, x) => (i, fr.eval x))) := by
  simp only [aop, withH_map]
theorem aop_load {t : TypeId} {a : Operand} : aop P call ⟨d, .load t a, ty, pos, af, g⟩ fr σ = loadV P t (fr.eval a) σ := by
  simp only [aop, loadV]
  generalize fr.eval a = v
  cases v <;> rfl
theorem aop_store {t : TypeId} {a x : Operand} : aop P call ⟨d, .store t a x, ty, pos, af, g⟩ fr σ = storeV P t (fr.eval a) (fr.eval x) σ := by
  simp only [aop, storeV]
  generalize fr.eval a = v
  cases v <;> rfl
theorem aop_nilCheck {x : Operand} : aop P call ⟨d, .nilCheck x, ty, pos, af, g⟩ fr σ = withH σ (nilV (fr.eval x)) := by
  simp only [aop, nilV]; split <;> simp_all [withH]
theorem aop_binOp {op : BinOp} {t t2 : TypeId} {x y : Operand} : aop P call ⟨d, .binOp op t x y t2, ty, pos, af, g⟩ fr σ = withH σ (bin P op t x y (fr.eval x) (fr.eval y)) := by
  simp only [aop, withH_map]
theorem aop_unOp {op : UnOp} {t : TypeId} {x : Operand} : aop P call ⟨d, .unOp op t x, ty, pos, af, g⟩ fr σ = withH σ (un P op (fr.eval x)) := by
  simp only [aop, withH_map]
theorem aop_convert {s t : TypeId} {x : Operand} : aop P call ⟨d, .convert s t x, ty, pos, af, g⟩ fr σ = conv P s t (fr.eval x) σ := rfl
theorem aop_makeInterface {t : TypeId} {x : Operand} : aop P call ⟨d, .makeInterface t x, ty, pos, af, g⟩ fr σ = withH σ (ifaceV P t (fr.eval x)) := by
  simp only [aop, ifaceV]; split <;> simp_all [withH]
theorem aop_makeFunc {fn : Fn} {a b : Array Operand} : aop P call ⟨d, .makeFunc fn a b, ty, pos, af, g⟩ fr σ = some (.func fn (a.map fr.eval) (b.map fr.eval), σ) := rfl
theorem aop_makeMap {t : TypeId} : aop P call ⟨d, .makeMap t none, ty, pos, af, g⟩ fr σ = some (.map (some σ.next), (σ.new (.map [] 0 false)).2) := rfl
theorem aop_slice {t : TypeId} {x : Operand} {lo hi mx : Option Operand} : aop P call ⟨d, .slice t x lo hi mx, ty, pos, af, g⟩ fr σ = withH σ (sliceOp P t (fr.eval x) (lo.map fr.eval) (hi.map fr.eval) (mx.map fr.eval) σ) := by
  simp only [aop, withH_map]
theorem aop_fieldAddr {s : TypeId} {x : Operand} {f : Nat} : aop P call ⟨d, .fieldAddr s x f, ty, pos, af, g⟩ fr σ = withH σ (fieldAddr P s (fr.eval x) f) := by
  simp only [aop, withH_map]
theorem aop_field {s : TypeId} {x : Operand} {f : Nat} : aop P call ⟨d, .field s x f, ty, pos, af, g⟩ fr σ = withH σ (fieldVal P s (fr.eval x) f) := by
  simp only [aop, withH_map]
theorem aop_indexAddr {t : TypeId} {x i : Operand} : aop P call ⟨d, .indexAddr t x i, ty, pos, af, g⟩ fr σ = withH σ (indexAddr P t (fr.eval x) (fr.eval i)) := by
  simp only [aop, withH_map]
theorem aop_index {t : TypeId} {x i : Operand} : aop P call ⟨d, .index t x i, ty, pos, af, g⟩ fr σ = withH σ (indexVal P t (fr.eval x) (fr.eval i)) := by
  simp only [aop, withH_map]
theorem aop_lookup {t : TypeId} {x i : Operand} {ok : Bool} : aop P call ⟨d, .lookup t x i ok, ty, pos, af, g⟩ fr σ = withH σ (lookup' P t (fr.eval x) (fr.eval i) ok σ) := by
  simp only [aop, withH_map]
theorem aop_mapUpdate {t : TypeId} {m k x : Operand} : aop P call ⟨d, .mapUpdate t m k x, ty, pos, af, g⟩ fr σ = (mapPut P t (fr.eval m) (fr.eval k) (fr.eval x) σ).map (undef, ·) := rfl
theorem aop_extract {t : Operand} {i : Nat} : aop P call ⟨d, .extract t i, ty, pos, af, g⟩ fr σ = withH σ (extV (fr.eval t) i) := by
  simp only [aop, extV]; split <;> simp_all [withH_map, withH]
theorem aop_builtin {b : Builtin} {args : Array Operand} {ts : Array TypeId} : aop P call ⟨d, .call ⟨.builtin b, args, ts⟩, ty, pos, af, g⟩ fr σ = builtin' P b ts (args.toList.map fr.eval) σ := rfl
theorem aop_call {f : Operand} {args : Array Operand} {ts : Array TypeId} : aop P call ⟨d, .call ⟨.value f, args, ts⟩, ty, pos, af, g⟩ fr σ = callV P call (fr.eval f) (args.toList.map fr.eval) σ := by
  simp only [aop, callV]
  generalize fr.eval f = v
  cases v <;> rfl
theorem aop_invoke {r : Operand} {name : String} {args : Array Operand} {ts : Array TypeId} : aop P call ⟨d, .call ⟨.invoke r name, args, ts⟩, ty, pos, af, g⟩ fr σ = invokeV P call (fr.eval r) name (args.toList.map fr.eval) σ := by
  simp only [aop, invokeV]
  generalize fr.eval r = v
  cases v <;> rfl
theorem aop_typeAssert {x : Operand} {t a : TypeId} {ok : Bool} : aop P call ⟨d, .typeAssert x t a ok, ty, pos, af, g⟩ fr σ = withH σ (typeAssert' P (fr.eval x) a ok) := by
  simp only [aop, withH_map]
end
end Go.AE
namespace Go.AE
variable {P : Program}
theorem indexAddr_slice {t e s : Nat} (h : P.underlying t = some (.slice e)) (hs : sizeOf' P e = some s) {b o len cap : Nat} {ix : Value} : indexAddr P t (.slice (some ⟨b, o, none⟩) len cap) ix = (idx ix len).map fun i => .pointer (some ⟨b, o + i * s, none⟩) := by
  simp only [indexAddr, h, hs]
  cases idx ix len <;> simp [Addr.add]
theorem indexAddr_array {t e s len : Nat} (h : P.underlying t = some (.array len e)) (hs : sizeOf' P e = some s) {b o : Nat} {ix : Value} : indexAddr P t (.pointer (some ⟨b, o, none⟩)) ix = (idx ix len).map fun i => .pointer (some ⟨b, o + i * s, none⟩) := by
  simp only [indexAddr, h, hs]
  cases idx ix len <;> simp [Addr.add]
end Go.AE
namespace Go.AE
variable {P : Program} {call : CallF} {n : Nat} {gs : List Nat} {orc : Orc}
/-- Drawn regions whose text order serves, laid plainly. -/
def undraw (P : Program) : Code → Code
  | .region id ops true => .region id ops (!(drawOk P [] ops.toList && (unruly P ops.toList).isEmpty))
  | .seq a b => .seq (undraw P a) (undraw P b)
  | .cond c a b => .cond c (undraw P a) (undraw P b)
  | .block id b => .block id (undraw P b)
  | .loop b => .loop (undraw P b)
  | .scope b => .scope (undraw P b)
  | c => c
theorem loopN_congr {f g : AFr → AHeap → Option (AExit × AFr × AHeap)} (h : ∀ fr σ, f fr σ = g fr σ) : ∀ (m : Nat) (fr : AFr) (σ : AHeap), loopN f m fr σ = loopN g m fr σ
  | 0, _, _ => rfl
  | m + 1, fr, σ => by
    rw [loopN, loopN, h]
    split
    · exact loopN_congr h m _ _
    · rfl
theorem exec_undraw : ∀ (c : Code) (fr : AFr) (σ : AHeap), exec P call n (undraw P c) fr σ = exec P call n c fr σ
  | .region id ops true, fr, σ => by
    rw [undraw]
    cases h1 : drawOk P [] ops.toList with
    | false => rfl
    | true =>
      cases h2 : unruly P ops.toList with
      | nil => simp only [List.isEmpty_nil, Bool.and_self, Bool.not_true, exec, region', h1, h2]
      | cons x l => rfl
  | .region id ops false, _, _ => rfl
  | .seq a b, fr, σ => by
    rw [undraw, exec, exec, exec_undraw a]
    split
    · exact exec_undraw b _ _
    · rfl
  | .cond c a b, fr, σ => by
    rw [undraw, exec, exec]
    split
    · exact exec_undraw a _ _
    · exact exec_undraw b _ _
    · rfl
  | .block id b, fr, σ => by rw [undraw, exec, exec, exec_undraw b]
  | .loop b, fr, σ => by rw [undraw, exec, exec]; exact loopN_congr (exec_undraw b) n fr σ
  | .scope b, fr, σ => by rw [undraw, exec, exec]; exact exec_undraw b fr σ
  | .skip, _, _ => rfl
  | .exit _, _, _ => rfl
  | .rangeFunc .., _, _ => rfl
  | .label _, _, _ => rfl
  | .goto _, _, _ => rfl
  | .ret, _, _ => rfl
  | .refuse _, _, _ => rfl
/-- A function entered: its code with the drawn regions laid plainly. -/
theorem W_enter {f : FuncId} {fn : Func} {c c' : Code} {m : Nat} {args : List Value} {σ : AHeap} {Q} (hf : P.funcs[f]? = some fn) (hb : fn.body = some c) (hc : undraw P c = c') (hk : codeOk gs c = true) (ho : orc f = none) (hm : max fn.ntmps args.length = m) :
    W (acall P gs orc (n + 1) f args σ) Q = W (exec P (acall P gs orc n) n c' ⟨m, Tr.ofList args 0 .leaf⟩ σ) (KRet P fn Q) := by
  rw [W_acall hf hb hk ho, hm, ← hc]
  unfold W
  simp only [exec_undraw]
end Go.AE
namespace Go.AE
variable {P : Program} {call : CallF} {n : Nat} {gs : List Nat} {orc : Orc}
/-- The drawn regions laid plainly, but those of the listed numbers. -/
def plainD (keep : List Nat) : Code → Code
  | .region id ops d => .region id ops (d && keep.contains id)
  | .seq a b => .seq (plainD keep a) (plainD keep b)
  | .cond c a b => .cond c (plainD keep a) (plainD keep b)
  | .block id b => .block id (plainD keep b)
  | .loop b => .loop (plainD keep b)
  | .scope b => .scope (plainD keep b)
  | c => c
theorem plainD_region {id : Nat} {ops : Array Oper} {d : Bool} : plainD [] (.region id ops d) = .region id ops false := by simp [plainD]
theorem plainD_cons {id k : Nat} {keep : List Nat} {ops : Array Oper} {d : Bool} : plainD (k :: keep) (.region id ops d) = if id = k then .region id ops d else plainD keep (.region id ops d) := by
  by_cases h : id = k
  · subst h; simp [plainD]
  · simp [plainD, h]
theorem plainD_seq {keep : List Nat} {a b : Code} : plainD keep (.seq a b) = .seq (plainD keep a) (plainD keep b) := rfl
theorem plainD_cond {keep : List Nat} {c : Operand} {a b : Code} : plainD keep (.cond c a b) = .cond c (plainD keep a) (plainD keep b) := rfl
theorem plainD_block {keep : List Nat} {id : Nat} {b : Code} : plainD keep (.block id b) = .block id (plainD keep b) := rfl
theorem plainD_loop {keep : List Nat} {b : Code} : plainD keep (.loop b) = .loop (plainD keep b) := rfl
theorem plainD_scope {keep : List Nat} {b : Code} : plainD keep (.scope b) = .scope (plainD keep b) := rfl
theorem plainD_skip {keep : List Nat} : plainD keep .skip = .skip := rfl
theorem plainD_ret {keep : List Nat} : plainD keep .ret = .ret := rfl
theorem plainD_exit {keep : List Nat} {i : Nat} : plainD keep (.exit i) = .exit i := rfl
theorem W_start {f : FuncId} {fn : Func} {c : Code} {keep : List Nat} {m : Nat} {args : List Value} {σ : AHeap} {Q} (hf : P.funcs[f]? = some fn) (hb : fn.body = some c) (hc : undraw P c = plainD keep c) (hk : codeOk gs c = true) (ho : orc f = none) (hm : max fn.ntmps args.length = m) :
    W (acall P gs orc (n + 1) f args σ) Q = W (exec P (acall P gs orc n) n (plainD keep c) ⟨m, Tr.ofList args 0 .leaf⟩ σ) (KRet P fn Q) := W_enter hf hb hc hk ho hm

/-! Regions in which what is read is read again. -/
def KTr (P : Program) (call : CallF) (ops rest : List Oper) (d : Option Tmp) (fr : AFr) (σ : AHeap) (K : List (AFr × AHeap × Value) × AFr × AHeap → Prop) : Value × AHeap → Prop := fun r => W (runTr P call ops rest (fr.put d r.1) r.2) fun x => K ((fr, σ, r.1) :: x.1, x.2)
def KRe (P : Program) (call : CallF) (ops : List Oper) (ps : List (Nat × Nat)) (Q : AExit × AFr × AHeap → Prop) : List (AFr × AHeap × Value) × AFr × AHeap → Prop := fun r => retold P call ops r.1 r.2.2 ps = true ∧ Q (.normal, r.2.1, r.2.2)
theorem W_retold {id : Nat} {ops : Array Oper} {ps : List (Nat × Nat)} {fr : AFr} {σ : AHeap} {Q} (h1 : drawOk P [] ops.toList = true) (h2 : unruly P ops.toList = ps) (h3 : ps ≠ []) :
    W (exec P call n (.region id ops true) fr σ) Q = W (runTr P call ops.toList ops.toList fr σ) (KRe P call ops.toList ps Q) := by
  have e : exec P call n (.region id ops true) fr σ = (match (match runTr P call ops.toList ops.toList fr σ with
      | some (tr, fr', σ') => (match retold P call ops.toList tr σ' ps with | true => some (fr', σ') | false => none)
      | none => none) with
    | some (fr, σ) => some (.normal, fr, σ)
    | none => none) := by
    simp only [exec, region', h1, h2]
    cases ps with
    | nil => exact absurd rfl h3
    | cons a l => rfl
  rw [e]
  cases h : runTr P call ops.toList ops.toList fr σ with
  | none => simp
  | some r =>
    obtain ⟨tr, fr', σ'⟩ := r
    simp only [W_some, KRe]
    cases hr : retold P call ops.toList tr σ' ps <;> simp
theorem W_tr_nil {all : List Oper} {fr : AFr} {σ : AHeap} {K} : W (runTr P call all [] fr σ) K = K ([], fr, σ) := by simp [runTr]
theorem W_tr {all rest : List Oper} {d : Option Tmp} {op : Op} {ty : TypeId} {pos : String} {af : Array Edge} {fr : AFr} {σ : AHeap} {K} :
    W (runTr P call all (⟨d, op, ty, pos, af, none⟩ :: rest) fr σ) K = W (aop P call ⟨d, op, ty, pos, af, none⟩ fr σ) (KTr P call all rest d fr σ K) := by
  rw [runTr]
  simp only [wanted']
  cases h : aop P call ⟨d, op, ty, pos, af, none⟩ fr σ with
  | none => simp
  | some r =>
    obtain ⟨v, σ'⟩ := r
    simp only [W_some, KTr]
    cases h2 : runTr P call all rest (fr.put d v) σ' with
    | none => simp
    | some x => simp
def WGt (P : Program) (call : CallF) (all rest : List Oper) (o : Oper) (want : Bool) (fr : AFr) (σ : AHeap) (K : List (AFr × AHeap × Value) × AFr × AHeap → Prop) (v : Value) : Prop := Wg v want (W (aop P call o fr σ) (KTr P call all rest o.dst fr σ K)) (W (runTr P call all rest (fr.put o.dst undef) σ) fun x => K ((fr, σ, undef) :: x.1, x.2))
theorem WGt_tt {all rest : List Oper} {o : Oper} {fr : AFr} {σ : AHeap} {K} : WGt P call all rest o true fr σ K (.bool true) = W (aop P call o fr σ) (KTr P call all rest o.dst fr σ K) := rfl
theorem WGt_ff {all rest : List Oper} {o : Oper} {fr : AFr} {σ : AHeap} {K} : WGt P call all rest o false fr σ K (.bool false) = W (aop P call o fr σ) (KTr P call all rest o.dst fr σ K) := rfl
theorem WGt_tf {all rest : List Oper} {o : Oper} {fr : AFr} {σ : AHeap} {K} : WGt P call all rest o true fr σ K (.bool false) = W (runTr P call all rest (fr.put o.dst undef) σ) (fun x => K ((fr, σ, undef) :: x.1, x.2)) := rfl
theorem WGt_ft {all rest : List Oper} {o : Oper} {fr : AFr} {σ : AHeap} {K} : WGt P call all rest o false fr σ K (.bool true) = W (runTr P call all rest (fr.put o.dst undef) σ) (fun x => K ((fr, σ, undef) :: x.1, x.2)) := rfl
theorem WGt_un {all rest : List Oper} {o : Oper} {want : Bool} {fr : AFr} {σ : AHeap} {K} : WGt P call all rest o want fr σ K undef = W (runTr P call all rest (fr.put o.dst undef) σ) (fun x => K ((fr, σ, undef) :: x.1, x.2)) := rfl
theorem W_tr_guard {all rest : List Oper} {d : Option Tmp} {op : Op} {ty : TypeId} {pos : String} {af : Array Edge} {j : Nat} {want : Bool} {fr : AFr} {σ : AHeap} {K} :
    W (runTr P call all (⟨d, op, ty, pos, af, some (j, want)⟩ :: rest) fr σ) K = WGt P call all rest ⟨d, op, ty, pos, af, some (j, want)⟩ want fr σ K (Gd all j fr) := by
  have key : wanted' all fr ⟨d, op, ty, pos, af, some (j, want)⟩ = (match Gd all j fr with | .bool b => b == want | _ => false) := by
    show (match yields all fr j with | some b => b == want | none => false) = _
    unfold yields Gd
    cases all[j]? with
    | none => rfl
    | some o =>
      cases hd : o.dst with
      | none => simp only [hd, undef]
      | some dd => simp only [hd]; cases fr.at_ dd <;> rfl
  have no : W (match runTr P call all rest (fr.put d undef) σ with | some (l, r) => some ((fr, σ, undef) :: l, r) | none => none) K = W (runTr P call all rest (fr.put d undef) σ) fun x => K ((fr, σ, undef) :: x.1, x.2) := by
    cases h : runTr P call all rest (fr.put d undef) σ with
    | none => simp
    | some x => simp
  unfold WGt
  rw [runTr, key]
  generalize Gd all j fr = v
  unfold Wg
  cases v with
  | bool b =>
    by_cases hb : b = want
    · subst hb
      simp only [beq_self_eq_true, if_true]
      cases h : aop P call ⟨d, op, ty, pos, af, some (j, b)⟩ fr σ with
      | none => simp
      | some r =>
        obtain ⟨v, σ'⟩ := r
        simp only [W_some, KTr]
        cases h2 : runTr P call all rest (fr.put d v) σ' with
        | none => simp
        | some x => simp
    · have : (b == want) = false := by simpa using hb
      simp only [this, if_neg hb]
      exact no
  | _ => exact no
theorem KTr_mk {all rest : List Oper} {d : Option Tmp} {fr : AFr} {σ σ' : AHeap} {K} {v : Value} : KTr P call all rest d fr σ K (v, σ') = W (runTr P call all rest (fr.put d v) σ') fun x => K ((fr, σ, v) :: x.1, x.2) := rfl
theorem KRe_mk {ops : List Oper} {ps : List (Nat × Nat)} {Q} {tr : List (AFr × AHeap × Value)} {fr : AFr} {σ : AHeap} : KRe P call ops ps Q (tr, fr, σ) = (retold P call ops tr σ ps = true ∧ Q (.normal, fr, σ)) := rfl
end Go.AE
namespace Go.AE
variable {P : Program} {call : CallF} {n : Nat} {gs : List Nat} {orc : Orc}
/-! Operations on known words. -/
section
variable {t : TypeId} {x y : Operand} {k : IntKind} {a b : Int} {s u : ByteArray}
theorem pureP_pure {α : Type} (a : α) : pureP P (pure a : Sem α) = some a := rfl
theorem bin_lss : bin P .lss t x y (.int k a) (.int k b) = some (.bool (decide (a < b))) := by simp [bin, Go.binOp, Op.intCmp, pureP_pure, atomic, atom]
theorem bin_leq : bin P .leq t x y (.int k a) (.int k b) = some (.bool (decide (a ≤ b))) := by simp [bin, Go.binOp, Op.intCmp, pureP_pure, atomic, atom]
theorem bin_gtr : bin P .gtr t x y (.int k a) (.int k b) = some (.bool (decide (b < a))) := by simp [bin, Go.binOp, Op.intCmp, pureP_pure, atomic, atom]
theorem bin_geq : bin P .geq t x y (.int k a) (.int k b) = some (.bool (decide (b ≤ a))) := by simp [bin, Go.binOp, Op.intCmp, pureP_pure, atomic, atom]
theorem int_beq (a b : Int) : (a == b) = decide (a = b) := by by_cases h : a = b <;> simp [h]
theorem bin_ieql : bin P .eql t x y (.int k a) (.int k b) = some (.bool (decide (a = b))) := by
  simp [int_beq, bin, Go.binOp, Op.intCmp, pureP_pure, atomic, atom]
theorem bin_ineq : bin P .neq t x y (.int k a) (.int k b) = some (.bool (!decide (a = b))) := by
  simp [int_beq, bin, Go.binOp, Op.intCmp, pureP_pure, atomic, atom, bne]
theorem bin_add : bin P .add t x y (.int k a) (.int k b) = some (.int k (k.wrap (a + b))) := by simp [bin, Go.binOp, Op.intArith, pureP_pure, atomic, atom]
theorem bin_sub : bin P .sub t x y (.int k a) (.int k b) = some (.int k (k.wrap (a - b))) := by simp [bin, Go.binOp, Op.intArith, pureP_pure, atomic, atom]
theorem bin_mul : bin P .mul t x y (.int k a) (.int k b) = some (.int k (k.wrap (a * b))) := by simp [bin, Go.binOp, Op.intArith, pureP_pure, atomic, atom]
theorem bin_quo (h : b ≠ 0) : bin P .quo t x y (.int k a) (.int k b) = some (.int k (k.wrap (a.tdiv b))) := by simp [bin, Go.binOp, Op.intDiv, pureP_pure, atomic, atom, h]
theorem bin_rem (h : b ≠ 0) : bin P .rem t x y (.int k a) (.int k b) = some (.int k (a.tmod b)) := by simp [bin, Go.binOp, Op.intDiv, pureP_pure, atomic, atom, h]
def sLt (s u : ByteArray) : Bool := Op.bytesLess s.data.toList u.data.toList
theorem bin_slss : bin P .lss t x y (.string s) (.string u) = some (.bool (sLt s u)) := rfl
theorem seq_dec {a b : ByteArray} : (a.data.toList == b.data.toList) = decide (a = b) := by
  by_cases h : a = b
  · subst h; simp
  · rw [decide_eq_false h]
    refine Bool.eq_false_iff.2 fun q => h ?_
    cases a with | mk x => cases b with | mk y => simp at q; rw [q]
theorem bin_seql : bin P .eql t x y (.string s) (.string u) = some (.bool (decide (s = u))) := by rw [← seq_dec]; rfl
theorem bin_sneq : bin P .neq t x y (.string s) (.string u) = some (.bool (!decide (s = u))) := by rw [← seq_dec]; rfl
theorem bin_sgtr : bin P .gtr t x y (.string s) (.string u) = some (.bool (!(sLt s u || decide (s = u)))) := by rw [← seq_dec]; rfl
theorem un_not {b : Bool} : un P .not (.bool b) = some (.bool !b) := by simp [un, atom, Op.unary, pureP_pure, atomic]
theorem nilV_ptr {a : Addr} : nilV (.pointer (some a)) = some (.pointer (some a)) := rfl
theorem nilV_iface {t : TypeId} {v : Value} : nilV (.iface t v) = some (.iface t v) := rfl
theorem pickV_true {a b : Value} : pickV (.bool true) a b = some a := rfl
theorem pickV_false {a b : Value} : pickV (.bool false) a b = some b := rfl
theorem loadV_ptr {t : TypeId} {b o : Nat} {σ : AHeap} : loadV P t (.pointer (some ⟨b, o, none⟩)) σ = withH σ (ldVar P t σ b o) := by rw [← withH_map]; rfl
theorem callV_func {f : FuncId} {fst cap : Array Value} {args : List Value} {σ : AHeap} (h : enters P f = true) : callV P call (.func (.func f) fst cap) args σ = call f (fst.toList ++ args ++ cap.toList) σ := by simp only [callV, h]
theorem allocV_zero {e : TypeId} {z : Value} {σ : AHeap} (h : zeroOf P e = some z) : allocV P e σ = some (ptr σ.next 0, (newCells σ e z.cells.toList).2) := by simp only [allocV, h]
def buildSliceV (P : Program) (t : TypeId) (len : Nat) (parts : List (Nat × Value)) (σ : AHeap) : Option (Value × AHeap) := match P.underlying t with
  | some (.slice elem) => match elemOk P elem with
    | some (size, z) => match (len * size).ble 1048576 with
      | true => match fill' (fun i => some (i * size, size)) (zerosN z len) parts with
        | some cs => some (.slice (some ⟨σ.next, 0, none⟩) len len, (newCells σ elem cs).2)
        | none => none
      | false => none
    | none => none
  | _ => none
theorem aop_buildSlice {d : Option Tmp} {ty : TypeId} {pos : String} {af : Array Edge} {g : Option (Nat × Bool)} {fr : AFr} {σ : AHeap} {len : Nat} {ps : Array (Nat × Operand)} : aop P call ⟨d, .buildSlice t len ps, ty, pos, af, g⟩ fr σ = buildSliceV P t len (ps.toList.map fun (i, x) => (i, fr.eval x)) σ := by
  simp only [aop, buildSliceV]
  cases P.underlying t with
  | none => rfl
  | some u =>
    cases u with
    | slice e =>
      simp only
      cases elemOk P e with
      | none => rfl
      | some p =>
        obtain ⟨size, z⟩ := p
        simp only
        cases (len * size).ble 1048576 with
        | false => rfl
        | true =>
          simp only
          cases fill' (fun i => some (i * size, size)) (zerosN z len) (List.map (fun x => (x.fst, fr.eval x.snd)) ps.toList) <;> rfl
    | _ => rfl
theorem resOne_tmp {fr : AFr} {σ : AHeap} {t : Nat} : resOne P fr σ (.tmp t) = some (fr.at_ t) := rfl
theorem rs_tmp {fn : Func} {fr : AFr} {σ : AHeap} {t : Nat} (h : fn.results = #[.tmp t]) : results' P fn fr σ = some (fr.at_ t) := by
  unfold results'
  rw [h]
  rfl
theorem rs_none {fn : Func} {fr : AFr} {σ : AHeap} (h : fn.results = #[]) : results' P fn fr σ = some (.tuple #[]) := by
  unfold results'
  rw [h]
  rfl
theorem rs_two {fn : Func} {fr : AFr} {σ : AHeap} {t u : Nat} (h : fn.results = #[.tmp t, .tmp u]) : results' P fn fr σ = some (.tuple #[fr.at_ t, fr.at_ u]) := by
  unfold results'
  rw [h]
  rfl
end
end Go.AE
namespace Go.AE
variable {P : Program} {call : CallF} {n : Nat} {gs : List Nat} {orc : Orc}
/-! A loop unrolled. -/
def KLoop (P : Program) (call : CallF) (n : Nat) (body : Code) (m : Nat) (Q : AExit × AFr × AHeap → Prop) : AExit × AFr × AHeap → Prop
  | (.normal, fr, σ) => W (loopN (exec P call n body) m fr σ) Q
  | r => Q r
theorem W_loopN {body : Code} {m : Nat} {fr : AFr} {σ : AHeap} {Q} : W (loopN (exec P call n body) (m + 1) fr σ) Q = W (exec P call n body fr σ) (KLoop P call n body m Q) := by
  rw [loopN]
  cases h : exec P call n body fr σ with
  | none => simp
  | some r => obtain ⟨e, f, s⟩ := r; cases e <;> simp [KLoop]
theorem W_loop_unfold {body : Code} {fr : AFr} {σ : AHeap} {Q} : W (exec P call n (.loop body) fr σ) Q = W (loopN (exec P call n body) n fr σ) Q := by rw [exec]
theorem KLoop_normal {body : Code} {m : Nat} {fr : AFr} {σ : AHeap} {Q} : KLoop P call n body m Q (.normal, fr, σ) = W (loopN (exec P call n body) m fr σ) Q := rfl
theorem KLoop_exit {body : Code} {m i : Nat} {fr : AFr} {σ : AHeap} {Q} : KLoop P call n body m Q (.exit i, fr, σ) = Q (.exit i, fr, σ) := rfl
theorem KLoop_ret {body : Code} {m : Nat} {fr : AFr} {σ : AHeap} {Q} : KLoop P call n body m Q (.ret, fr, σ) = Q (.ret, fr, σ) := rfl
theorem idx_cast {k : IntKind} {i len : Nat} : idx (.int k (i : Int)) len = if i < len then some i else none := rfl
theorem len_slice {t e : TypeId} {a : Option Addr} {m c : Nat} {σ : AHeap} (h : P.underlying t = some (.slice e)) : builtin' P .len #[t] [.slice a m c] σ = some (.int .i64 (m : Int), σ) := by
  have h0 : (#[t] : Array TypeId)[0]? = some t := rfl
  simp only [builtin', h0, Option.bind_some, h]; rfl
theorem len_string {t : TypeId} {s : ByteArray} {σ : AHeap} (h : P.underlying t = some .string) : builtin' P .len #[t] [.string s] σ = some (.int .i64 (s.size : Int), σ) := by
  have h0 : (#[t] : Array TypeId)[0]? = some t := rfl
  simp only [builtin', h0, Option.bind_some, h]; rfl
theorem idx_zero {k : IntKind} {len : Nat} : idx (.int k 0) len = if 0 < len then some 0 else none := rfl
theorem idx_one {k : IntKind} {len : Nat} : idx (.int k 1) len = if 1 < len then some 1 else none := rfl
theorem wrap64 {x : Int} (h : -9223372036854775808 ≤ x) (h2 : x ≤ 9223372036854775807) : IntKind.i64.wrap x = x := by
  simp [IntKind.wrap, IntKind.bits, IntKind.signed]; omega
theorem wrap64_1 : IntKind.i64.wrap (0 + 1) = 1 := by decide
theorem wrap64_2 : IntKind.i64.wrap (1 + 1) = 2 := by decide
theorem buildSlice_of {t e size len : TypeId} {z cs : List Value} {parts : List (Nat × Value)} {σ : AHeap} (ht : P.underlying t = some (.slice e)) (he : elemOk P e = some (size, z)) (hl : (len * size).ble 1048576 = true) (hf : fill' (fun i => some (i * size, size)) (zerosN z len) parts = some cs) :
    buildSliceV P t len parts σ = some (.slice (some ⟨σ.next, 0, none⟩) len len, (newCells σ e cs).2) := by
  simp only [buildSliceV, ht, he, hl, hf]
end Go.AE
namespace Go.AE
variable {P : Program} {call : CallF} {n : Nat}
theorem retold_nil {ops : List Oper} {tr : List (AFr × AHeap × Value)} {fin : AHeap} : retold P call ops tr fin [] = true := rfl
def RetAt (P : Program) (call : CallF) (ops : List Oper) (o : Option Oper) (a b c : Option (AFr × AHeap × Value)) (fin : AHeap) : Prop := match o, a, b with
  | some o, some (fr, _, v), some (_, σu, _) => wanted' ops fr o = true → retells P call o fr v σu = true ∧ retells P call o fr v (match c with | some (_, σ, _) => σ | none => fin) = true
  | _, _, _ => False
theorem retold_cons {ops : List Oper} {tr : List (AFr × AHeap × Value)} {fin : AHeap} {u i : Nat} {rest : List (Nat × Nat)} : (retold P call ops tr fin ((u, i) :: rest) = true) = (RetAt P call ops ops[i]? tr[i]? tr[u]? tr[u + 1]? fin ∧ retold P call ops tr fin rest = true) := by
  rw [retold, Bool.and_eq_true]
  congr 1
  unfold RetAt
  apply propext
  cases ops[i]? with
  | none => simp
  | some o =>
    cases tr[i]? with
    | none => simp
    | some a =>
      obtain ⟨fr, s, v⟩ := a
      cases tr[u]? with
      | none => simp
      | some b =>
        obtain ⟨f2, σu, v2⟩ := b
        simp only
        cases wanted' ops fr o <;> cases tr[u + 1]? <;> simp
theorem RetAt_mk {ops : List Oper} {d : Option Tmp} {op : Op} {ty : TypeId} {pos : String} {af : Array Edge} {fr f2 f3 : AFr} {s σu σ' fin : AHeap} {v v2 v3 : Value} :
    RetAt P call ops (some ⟨d, op, ty, pos, af, none⟩) (some (fr, s, v)) (some (f2, σu, v2)) (some (f3, σ', v3)) fin = (retells P call ⟨d, op, ty, pos, af, none⟩ fr v σu = true ∧ retells P call ⟨d, op, ty, pos, af, none⟩ fr v σ' = true) := by
  simp [RetAt, wanted']
theorem RetAt_last {ops : List Oper} {d : Option Tmp} {op : Op} {ty : TypeId} {pos : String} {af : Array Edge} {fr f2 : AFr} {s σu fin : AHeap} {v v2 : Value} :
    RetAt P call ops (some ⟨d, op, ty, pos, af, none⟩) (some (fr, s, v)) (some (f2, σu, v2)) none fin = (retells P call ⟨d, op, ty, pos, af, none⟩ fr v σu = true ∧ retells P call ⟨d, op, ty, pos, af, none⟩ fr v fin = true) := by
  simp [RetAt, wanted']
theorem retells_eq {o : Oper} {fr : AFr} {v : Value} {σ : AHeap} : (retells P call o fr v σ = true) = W (aop P call o fr σ) fun r => sameV 6 r.1 v = true := by
  unfold retells
  cases aop P call o fr σ with
  | none => simp
  | some r => simp
theorem sameV_int {k : IntKind} {a : Int} : sameV 6 (.int k a) (.int k a) = true := by simp [sameV]
theorem sameV_string {s : ByteArray} : sameV 6 (.string s) (.string s) = true := by simp [sameV]
theorem sameV_bool {b : Bool} : sameV 6 (.bool b) (.bool b) = true := by simp [sameV]
theorem sameV_ptr {a : Option Addr} : sameV 6 (.pointer a) (.pointer a) = true := by simp [sameV]
theorem sameV_map {a : Option Nat} : sameV 6 (.map a) (.map a) = true := by simp [sameV]
theorem sameV_slice {a : Option Addr} {n c : Nat} : sameV 6 (.slice a n c) (.slice a n c) = true := by simp [sameV]
end Go.AE
namespace Go.AE
variable {P : Program} {call : CallF} {n : Nat}
theorem bin_nilp {t e : TypeId} {x y : Operand} {a : Addr} (h : P.underlying t = some (.pointer e)) : bin P .eql t x y (.pointer (some a)) (.pointer none) = some (.bool false) := by simp [bin, isEq, eqV, h]
theorem bin_nilm {t a b : TypeId} {x y : Operand} {m : Nat} (h : P.underlying t = some (.map a b)) : bin P .eql t x y (.map (some m)) (.map none) = some (.bool false) := by simp [bin, isEq, eqV, h]
theorem aop_mapEntry {d : Option Tmp} {ty : TypeId} {pos : String} {af : Array Edge} {g : Option (Nat × Bool)} {fr : AFr} {σ : AHeap} {t : TypeId} {m k : Operand} : aop P call ⟨d, .mapEntry t m k, ty, pos, af, g⟩ fr σ = mapEntry' P t (fr.eval m) (fr.eval k) σ := rfl
theorem aop_entryStore {d : Option Tmp} {ty : TypeId} {pos : String} {af : Array Edge} {g : Option (Nat × Bool)} {fr : AFr} {σ : AHeap} {t : TypeId} {m s x : Operand} : aop P call ⟨d, .entryStore t m s x, ty, pos, af, g⟩ fr σ = (entryStore' (fr.eval m) (fr.eval s) (fr.eval x) σ).map (undef, ·) := rfl
end Go.AE
end
/- Rows, slices and maps that hold known things, as the evaluator sees them. -/
section
set_option linter.all false
namespace Go.AE
variable {P : Program}

/-! What a piece leaves alone. -/
structure Same (σ σ' : AHeap) (F : List Nat) : Prop where
  next : σ.next ≤ σ'.next
  get : ∀ b, b < σ.next → b ∉ F → σ'.get b = σ.get b
theorem Same.refl (σ : AHeap) (F : List Nat) : Same σ σ F := ⟨Nat.le_refl _, fun _ _ _ => rfl⟩
theorem Same.trans {σ1 σ2 σ3 : AHeap} {F G : List Nat} (h : Same σ1 σ2 F) (k : Same σ2 σ3 G) (hG : ∀ b ∈ G, b ∈ F ∨ σ1.next ≤ b) : Same σ1 σ3 F :=
  ⟨Nat.le_trans h.next k.next, fun b hb hF => by
    rw [k.get b (Nat.lt_of_lt_of_le hb h.next) fun hm => by rcases hG b hm with q | q; exact hF q; omega]
    exact h.get b hb hF⟩
theorem Same.mono {σ1 σ2 : AHeap} {F G : List Nat} (h : Same σ1 σ2 F) (hF : ∀ b ∈ F, b ∈ G) : Same σ1 σ2 G := ⟨h.next, fun b hb hn => h.get b hb fun q => hn (hF b q)⟩
theorem Same.new (σ : AHeap) (o : AObj) : Same σ (σ.new o).2 [] := ⟨by simp, fun b hb _ => by rw [AHeap.get_new, if_neg (by omega)]⟩
theorem Same.set (σ : AHeap) (b : Nat) (o : AObj) : Same σ (σ.set b o) [b] := ⟨by simp, fun c _ hn => by rw [AHeap.get_set, if_neg (by simpa using hn)]⟩
theorem Same.drop (σ : AHeap) (b : Nat) : Same σ (σ.drop b) [b] := ⟨by simp, fun c _ hn => by rw [AHeap.get_drop, if_neg (by simpa using hn)]⟩
theorem newCells_eq (σ : AHeap) (e : TypeId) (vs : List Value) (g : Bool) : newCells σ e vs g = (σ.next, (σ.new (.cells vs.length (Tr.ofList vs 0 .leaf) e g false)).2) := rfl
theorem get_newCells (σ : AHeap) (e : TypeId) (vs : List Value) (g : Bool) (b : Nat) : (newCells σ e vs g).2.get b = if b = σ.next then some (.cells vs.length (Tr.ofList vs 0 .leaf) e g false) else σ.get b := AHeap.get_new _ _ _
theorem next_newCells (σ : AHeap) (e : TypeId) (vs : List Value) (g : Bool) : (newCells σ e vs g).2.next = σ.next + 1 := rfl
theorem Same.newCells (σ : AHeap) (e : TypeId) (vs : List Value) (g : Bool) : Same σ (newCells σ e vs g).2 [] := .new _ _

/-! Rows of things of k cells each. -/
section
variable {α : Type} {k : Nat} {enc : α → List Value}
structure Enc (k : Nat) (enc : α → List Value) : Prop where
  len : ∀ x, (enc x).length = k
  single : ∀ x, ∀ v ∈ enc x, single v = true
  pos : 0 < k
def CellsAt (k : Nat) (enc : α → List Value) (c : Tr Value) (o : Nat) (A : List α) (cap : Nat) : Prop :=
  (∀ i x, A[i]? = some x → ∀ j v, (enc x)[j]? = some v → c.get (o + i * k + j) = some v) ∧ ∀ i, i < cap * k → (c.get (o + i)).isSome
def ArrAt (σ : AHeap) (b : Nat) (e : TypeId) (g : Bool) (k : Nat) (enc : α → List Value) (o : Nat) (A : List α) (cap : Nat) : Prop :=
  ∃ n c, σ.get b = some (.cells n c e g false) ∧ CellsAt k enc c o A cap
theorem ArrAt.of_get {σ σ' : AHeap} {b : Nat} {e : TypeId} {g : Bool} {o cap : Nat} {A : List α} (h : ArrAt σ b e g k enc o A cap) (hg : σ'.get b = σ.get b) : ArrAt σ' b e g k enc o A cap := by
  obtain ⟨n, c, h1, h2⟩ := h; exact ⟨n, c, by rw [hg, h1], h2⟩
theorem ArrAt.ld {σ : AHeap} {b : Nat} {e : TypeId} {g : Bool} {o cap : Nat} {A : List α} (h : ArrAt σ b e g k enc o A cap) {i j : Nat} {x : α} {v : Value} (hi : A[i]? = some x) (hj : (enc x)[j]? = some v) : ld σ b (o + i * k + j) = some v := by
  obtain ⟨n, c, h1, h2⟩ := h
  simp only [AE.ld, h1]
  exact h2.1 i x hi j v hj
theorem ldN_of {c : Tr Value} : ∀ (vs : List Value) (off : Nat), (∀ j v, vs[j]? = some v → c.get (off + j) = some v) → ldN c off vs.length = some vs
  | [], _, _ => rfl
  | v :: vs, off, h => by
    rw [List.length_cons, ldN, show c.get off = some v from h 0 v rfl]
    simp only
    rw [ldN_of vs (off + 1) fun j u hj => by have := h (j + 1) u (by simpa using hj); rwa [show off + (j + 1) = off + 1 + j by omega] at this]
theorem ArrAt.ldCells {σ : AHeap} {b : Nat} {e : TypeId} {g : Bool} {o cap : Nat} {A : List α} (hE : Enc k enc) (h : ArrAt σ b e g k enc o A cap) {i : Nat} {x : α} (hi : A[i]? = some x) : ldCells σ b (o + i * k) k = some (enc x) := by
  obtain ⟨n, c, h1, h2⟩ := h
  have hk := hE.pos
  unfold AE.ldCells
  split
  · omega
  · simp only [h1]
    have := ldN_of (c := c) (enc x) (o + i * k) fun j v hj => h2.1 i x hi j v hj
    rwa [hE.len x] at this
theorem flat_get (hE : Enc k enc) : ∀ (A : List α) (i : Nat) (x : α) (j : Nat) (v : Value), A[i]? = some x → (enc x)[j]? = some v → (A.flatMap enc)[i * k + j]? = some v
  | [], i, x, j, v, h, _ => by simp at h
  | a :: A, i, x, j, v, h, hj => by
    rw [List.flatMap_cons]
    cases i with
    | zero =>
      simp at h
      subst h
      have : j < (enc a).length := (List.getElem?_eq_some_iff.1 hj).1
      rw [List.getElem?_append_left (by omega)]
      simpa using hj
    | succ i =>
      rw [List.getElem?_append_right (by rw [hE.len]; rw [Nat.add_mul]; omega), hE.len, show (i + 1) * k + j - k = i * k + j by rw [Nat.add_mul]; omega]
      exact flat_get hE A i x j v (by simpa using h) hj
theorem flat_len (hE : Enc k enc) : ∀ A : List α, (A.flatMap enc).length = A.length * k
  | [] => by simp
  | a :: A => by rw [List.flatMap_cons, List.length_append, hE.len, flat_len hE A, List.length_cons, Nat.add_mul]; omega
theorem flat_of (hE : Enc k enc) : ∀ (A : List α) (q : Nat) (v : Value), (A.flatMap enc)[q]? = some v → ∃ i x j, q = i * k + j ∧ A[i]? = some x ∧ (enc x)[j]? = some v
  | [], q, v, h => by simp at h
  | a :: A, q, v, h => by
    rw [List.flatMap_cons] at h
    by_cases hq : q < (enc a).length
    · rw [List.getElem?_append_left hq] at h
      exact ⟨0, a, q, by omega, rfl, h⟩
    · rw [List.getElem?_append_right (by omega)] at h
      obtain ⟨i, x, j, e, h1, h2⟩ := flat_of hE A _ v h
      refine ⟨i + 1, x, j, ?_, by simpa using h1, h2⟩
      rw [hE.len] at e hq
      rw [Nat.add_mul]
      omega
theorem ArrAt.all {σ : AHeap} {b : Nat} {e : TypeId} {g : Bool} {o cap : Nat} {A : List α} (hE : Enc k enc) (h : ArrAt σ b e g k enc o A cap) : AE.ldCells σ b o (A.length * k) = some (A.flatMap enc) := by
  obtain ⟨n, c, h1, h2⟩ := h
  unfold AE.ldCells
  split
  · rename_i q
    have := hE.pos
    have : A.length = 0 := by rcases Nat.mul_eq_zero.1 q with q | q <;> omega
    rw [List.eq_nil_of_length_eq_zero this]; rfl
  · simp only [h1]
    have := ldN_of (c := c) (A.flatMap enc) o fun q v hq => by
      obtain ⟨i, x, j, e, h3, h4⟩ := flat_of hE A q v hq
      subst e
      have := h2.1 i x h3 j v h4
      rwa [Nat.add_assoc] at this
    rwa [flat_len hE] at this
theorem ArrAt.new (hE : Enc k enc) (σ : AHeap) (e : TypeId) (g : Bool) (A : List α) : ArrAt (newCells σ e (A.flatMap enc) g).2 σ.next e g k enc 0 A A.length := by
  refine ⟨_, _, by rw [get_newCells, if_pos rfl], fun i x hi j v hj => ?_, fun i hi => ?_⟩
  · rw [Tr.get_of, Nat.zero_add]; exact flat_get hE A i x j v hi hj
  · rw [Tr.get_of, Nat.zero_add]
    have : i < (A.flatMap enc).length := by rw [flat_len hE]; exact hi
    rw [List.getElem?_eq_getElem this]; rfl
theorem ArrAt.take {σ : AHeap} {b : Nat} {e : TypeId} {g : Bool} {o cap : Nat} {A : List α} (h : ArrAt σ b e g k enc o A cap) (m : Nat) : ArrAt σ b e g k enc o (A.take m) cap := by
  obtain ⟨n, c, h1, h2, h3⟩ := h
  refine ⟨n, c, h1, fun i x hi => h2 i x ?_, h3⟩
  rw [List.getElem?_take] at hi
  split at hi
  · exact hi
  · cases hi
theorem stN_of {c : Tr Value} : ∀ (vs : List Value) (c : Tr Value) (off : Nat), (∀ v ∈ vs, single v = true) → (∀ j, j < vs.length → (c.get (off + j)).isSome) → ∃ c', stN c off vs = some c' ∧ ∀ i, c'.get i = if off ≤ i ∧ i < off + vs.length then vs[i - off]? else c.get i
  | [], c, off, _, _ => ⟨c, rfl, fun i => by simp; intro h1 h2; omega⟩
  | v :: vs, c, off, hs, hj => by
    have h0 := hj 0 (by simp)
    rw [Nat.add_zero] at h0
    obtain ⟨u, hu⟩ := Option.isSome_iff_exists.1 h0
    obtain ⟨c', h1, _⟩ := stN_of (c := c) vs (c.put off (some v)) (off + 1) (fun x hx => hs x (by simp [hx])) fun j hlt => by
      rw [Tr.get_put, if_neg (by omega), show off + 1 + j = off + (j + 1) by omega]
      exact hj (j + 1) (by simpa using hlt)
    have e : stN c off (v :: vs) = some c' := by rw [stN, hs v (by simp), hu]; exact h1
    exact ⟨c', e, (stN_spec _ _ _ _ e).2.2⟩
/-- A thing stored. -/
theorem ArrAt.put {σ : AHeap} {b : Nat} {e : TypeId} {g : Bool} {o cap : Nat} {A : List α} (hE : Enc k enc) (h : ArrAt σ b e g k enc o A cap) {i : Nat} (hi : i < cap) (y : α) :
    ∃ o', AE.stCells σ b (o + i * k) (enc y) = some (σ.set b o') ∧ (i < A.length → ArrAt (σ.set b o') b e g k enc o (A.set i y) cap) ∧ (i = A.length → ArrAt (σ.set b o') b e g k enc o (A ++ [y]) cap) := by
  obtain ⟨n, c, h1, h2, h3⟩ := h
  have hk := hE.pos
  have hle : i * k + k ≤ cap * k := by have := Nat.mul_le_mul_right k (show i + 1 ≤ cap from hi); rwa [Nat.add_mul, Nat.one_mul] at this
  obtain ⟨c', hc, hg⟩ := stN_of (c := c) (enc y) c (o + i * k) (hE.single y) fun j hj => by
    rw [hE.len] at hj
    have := h3 (i * k + j) (by omega)
    rwa [← Nat.add_assoc] at this
  rw [hE.len] at hg
  have new : ∀ i' j v, i' = i → (enc y)[j]? = some v → c'.get (o + i' * k + j) = some v := fun i' j v hi' hj => by
    subst hi'
    have hjl : j < k := by have := (List.getElem?_eq_some_iff.1 hj).1; rwa [hE.len] at this
    rw [hg, if_pos (by omega), show o + i' * k + j - (o + i' * k) = j by omega]
    exact hj
  have old : ∀ i' x j v, i' ≠ i → A[i']? = some x → (enc x)[j]? = some v → c'.get (o + i' * k + j) = some v := fun i' x j v hne hx hj => by
    have hjl : j < k := by have := (List.getElem?_eq_some_iff.1 hj).1; rwa [hE.len] at this
    rw [hg, if_neg]
    · exact h2 i' x hx j v hj
    · intro hh
      rcases Nat.lt_or_gt_of_ne hne with q | q
      · have := Nat.mul_le_mul_right k (show i' + 1 ≤ i from q); rw [Nat.add_mul, Nat.one_mul] at this; omega
      · have := Nat.mul_le_mul_right k (show i + 1 ≤ i' from q); rw [Nat.add_mul, Nat.one_mul] at this; omega
  have some' : ∀ q, q < cap * k → (c'.get (o + q)).isSome := fun q hq => by
    rw [hg]
    split
    · rename_i hh
      rw [List.getElem?_eq_getElem (by rw [hE.len]; omega)]; rfl
    · exact h3 q hq
  refine ⟨.cells n c' e g false, ?_, fun hlt => ⟨n, c', by simp, ?_, some'⟩, fun heq => ⟨n, c', by simp, ?_, some'⟩⟩
  · unfold AE.stCells
    split
    · rename_i q; have := hE.len y; rw [q] at this; simp at this; omega
    · simp only [h1, hc]
  · intro i' x hx j v hj
    by_cases q : i' = i
    · subst q
      rw [List.getElem?_set_self hlt] at hx
      cases hx
      exact new _ j v rfl hj
    · rw [List.getElem?_set_ne (fun h => q h.symm)] at hx
      exact old i' x j v q hx hj
  · intro i' x hx j v hj
    by_cases q : i' = i
    · subst q heq
      simp at hx
      subst hx
      exact new _ j v rfl hj
    · rw [List.getElem?_append] at hx
      split at hx
      · exact old i' x j v q hx hj
      · rename_i hl
        have : i' - A.length = 0 := by
          have := (List.getElem?_eq_some_iff.1 hx).1
          simp at this; omega
        omega
end
end Go.AE
namespace Go.AE
variable {P : Program}
theorem ld_newCells {σ : AHeap} {e : TypeId} {vs : List Value} {g : Bool} {b o : Nat} : ld (newCells σ e vs g).2 b o = if b = σ.next then vs[o]? else ld σ b o := by
  unfold ld
  rw [get_newCells]
  by_cases h : b = σ.next
  · simp only [if_pos h, Tr.get_of]
  · simp only [if_neg h]
theorem ldCells_newCells {σ : AHeap} {e : TypeId} {vs : List Value} {g : Bool} : ldCells (newCells σ e vs g).2 σ.next 0 vs.length = some vs := by
  unfold ldCells
  split
  · rename_i h; rw [List.eq_nil_of_length_eq_zero h]
  · rw [get_newCells, if_pos rfl]
    simp only
    exact ldN_of vs 0 fun j v hj => by rw [Tr.get_of, Nat.zero_add]; exact hj
theorem ne_add_one (n : Nat) : (n = n + 1) = False := by simp
theorem add_one_ne (n : Nat) : (n + 1 = n) = False := by simp
theorem next_new (σ : AHeap) (o : AObj) : (σ.new o).2.next = σ.next + 1 := rfl
end Go.AE
namespace Go.AE
variable {P : Program}
theorem bs_two {t e : TypeId} {z a b : Value} {σ : AHeap} (ht : P.underlying t = some (.slice e)) (he : elemOk P e = some (1, [z])) (ha : a.cells = #[a]) (hb : b.cells = #[b]) :
    buildSliceV P t 2 [(0, a), (1, b)] σ = some (.slice (some ⟨σ.next, 0, none⟩) 2 2, (newCells σ e [a, b]).2) :=
  buildSlice_of ht he (by decide) (by simp [fill', zerosN, ha, hb])
theorem bs_one {t e k : TypeId} {z : List Value} {cs : Array Value} {σ : AHeap} (ht : P.underlying t = some (.slice e)) (he : elemOk P e = some (k, z)) (hz : z.length = k) (hc : cs.size = k) (hk : (1 * k).ble 1048576 = true) :
    buildSliceV P t 1 [(0, .agg cs)] σ = some (.slice (some ⟨σ.next, 0, none⟩) 1 1, (newCells σ e cs.toList).2) := by
  refine buildSlice_of ht he hk ?_
  simp [fill', zerosN, Value.cells, hc, hz, Nat.ble_eq_true_of_le (Nat.le_refl k), List.drop_of_length_le (show z.length ≤ k from Nat.le_of_eq hz)]
end Go.AE
end
/- Slices and maps of strings that hold known things, as the evaluator sees them. -/
section
set_option linter.all false
namespace Go.AE
variable {P : Program}

section
variable {α : Type} {k : Nat} {enc : α → List Value}
/-- Things stored behind those that are there, into the row's own room. -/
theorem ArrAt.puts {σ : AHeap} {b : Nat} {e : TypeId} {g : Bool} {o cap : Nat} {A : List α} (hE : Enc k enc) (h : ArrAt σ b e g k enc o A cap) (B : List α) (hB : A.length + B.length ≤ cap) :
    ∃ σ', AE.stCells σ b (o + A.length * k) (B.flatMap enc) = some σ' ∧ σ'.next = σ.next ∧ (∀ c, c ≠ b → σ'.get c = σ.get c) ∧ ArrAt σ' b e g k enc o (A ++ B) cap := by
  obtain ⟨n, c, h1, h2, h3⟩ := h
  have hle : A.length * k + B.length * k ≤ cap * k := by have := Nat.mul_le_mul_right k hB; rwa [Nat.add_mul] at this
  by_cases hn : B.flatMap enc = []
  · have : B = [] := by
      cases B with
      | nil => rfl
      | cons y r =>
        have h5 := flat_len hE (y :: r)
        rw [hn] at h5
        have := hE.pos
        rcases Nat.mul_eq_zero.1 h5.symm with q | q
        · simp at q
        · omega
    subst this
    exact ⟨σ, by simp [AE.stCells], rfl, fun _ _ => rfl, by rw [List.append_nil]; exact ⟨n, c, h1, h2, h3⟩⟩
  · obtain ⟨c', hc, hg⟩ := stN_of (c := c) (B.flatMap enc) c (o + A.length * k) (fun v hv => by obtain ⟨x, _, hx⟩ := List.mem_flatMap.1 hv; exact hE.single x v hx) fun j hj => by
      rw [flat_len hE] at hj
      have := h3 (A.length * k + j) (by omega)
      rwa [← Nat.add_assoc] at this
    rw [flat_len hE] at hg
    refine ⟨σ.set b (.cells n c' e g false), ?_, rfl, fun d hd => by rw [AHeap.get_set, if_neg hd], n, c', by simp, fun i x hi j v hj => ?_, fun i hi => ?_⟩
    · unfold AE.stCells
      split
      · rename_i q; exact absurd q hn
      · simp only [h1, hc]
    · have hjl : j < k := by have := (List.getElem?_eq_some_iff.1 hj).1; rwa [hE.len] at this
      rw [hg]
      by_cases hl : i < A.length
      · have := Nat.mul_le_mul_right k (show i + 1 ≤ A.length from hl)
        rw [Nat.add_mul, Nat.one_mul] at this
        rw [if_neg (by omega)]
        rw [List.getElem?_append_left hl] at hi
        exact h2 i x hi j v hj
      · rw [List.getElem?_append_right (by omega)] at hi
        have hi2 : i - A.length < B.length := (List.getElem?_eq_some_iff.1 hi).1
        have := Nat.mul_le_mul_right k (show i - A.length + 1 ≤ B.length from hi2)
        rw [Nat.add_mul, Nat.one_mul] at this
        have hm : i * k = A.length * k + (i - A.length) * k := by rw [← Nat.add_mul]; congr 1; omega
        rw [if_pos (by omega), show o + i * k + j - (o + A.length * k) = (i - A.length) * k + j by omega]
        exact flat_get hE B _ x j v hi hj
    · rw [hg]
      split
      · rw [List.getElem?_eq_getElem (by rw [flat_len hE]; omega)]; rfl
      · exact h3 i hi

/-- A slice that holds things; its row starts at an element. -/
def SlAt (σ : AHeap) (e : TypeId) (k : Nat) (enc : α → List Value) (v : Value) (A : List α) : Prop :=
  (v = .slice none 0 0 ∧ A = []) ∨ (∃ a j, v = .slice (some a) 0 0 ∧ a.spot = some j ∧ A = []) ∨
  ∃ b o cap g, v = .slice (some ⟨b, o, none⟩) A.length cap ∧ A.length ≤ cap ∧ b < σ.next ∧ ArrAt σ b e g k enc o A cap
def blks : Value → List Nat
  | .slice (some ⟨b, _, none⟩) _ _ => [b]
  | _ => []
theorem SlAt.same {σ σ' : AHeap} {F : List Nat} {e : TypeId} {v : Value} {A : List α} (h : SlAt σ e k enc v A) (hs : Same σ σ' F) (hF : ∀ b ∈ blks v, b ∉ F) : SlAt σ' e k enc v A := by
  rcases h with h | h | ⟨b, o, cap, g, h1, h2, h3, h4⟩
  · exact .inl h
  · exact .inr (.inl h)
  · subst h1
    exact .inr (.inr ⟨b, o, cap, g, rfl, h2, Nat.lt_of_lt_of_le h3 hs.next, h4.of_get (hs.get b h3 (hF b (by simp [blks])))⟩)
theorem SlAt.len {σ : AHeap} {e : TypeId} {v : Value} {A : List α} (h : SlAt σ e k enc v A) : ∃ a c, v = .slice a A.length c ∧ A.length ≤ c := by
  rcases h with ⟨rfl, rfl⟩ | ⟨a, j, rfl, _, rfl⟩ | ⟨b, o, cap, g, rfl, h2, _⟩
  · exact ⟨_, _, rfl, Nat.le_refl _⟩
  · exact ⟨_, _, rfl, Nat.le_refl _⟩
  · exact ⟨_, _, rfl, h2⟩
theorem SlAt.at_ {σ : AHeap} {e : TypeId} {v : Value} {A : List α} (h : SlAt σ e k enc v A) {i : Nat} {x : α} (hi : A[i]? = some x) :
    ∃ b o cap g, v = .slice (some ⟨b, o, none⟩) A.length cap ∧ A.length ≤ cap ∧ b < σ.next ∧ ArrAt σ b e g k enc o A cap := by
  rcases h with ⟨rfl, rfl⟩ | ⟨a, j, rfl, _, rfl⟩ | h
  · simp at hi
  · simp at hi
  · exact h
theorem SlAt.lt {σ : AHeap} {e : TypeId} {v : Value} {A : List α} (h : SlAt σ e k enc v A) : ∀ b ∈ blks v, b < σ.next := by
  rcases h with ⟨rfl, rfl⟩ | ⟨⟨b0, o0, s0⟩, j, rfl, hs, rfl⟩ | ⟨b, o, cap, g, rfl, h2, h3, _⟩
  · intro b hb; cases hb
  · intro b hb; simp only at hs; subst hs; cases hb
  · intro c hc; simp [blks] at hc; omega
theorem SlAt.new (hE : Enc k enc) (σ : AHeap) (e : TypeId) (g : Bool) (A : List α) : SlAt (newCells σ e (A.flatMap enc) g).2 e k enc (.slice (some ⟨σ.next, 0, none⟩) A.length A.length) A :=
  .inr (.inr ⟨σ.next, 0, A.length, g, rfl, Nat.le_refl _, by rw [next_newCells]; omega, ArrAt.new hE σ e g A⟩)
/-- All of it read. -/
theorem SlAt.first (hE : Enc k enc) {σ : AHeap} {e : TypeId} {v : Value} {A : List α} (h : SlAt σ e k enc v A) : firstCells' k A.length σ v = some (A.flatMap enc) := by
  rcases h with ⟨rfl, rfl⟩ | ⟨a, j, rfl, _, rfl⟩ | ⟨b, o, cap, g, rfl, h2, _, h4⟩
  · simp [firstCells']
  · simp [firstCells', AE.ldCells]
  · exact h4.all hE
/-- Things appended. -/
theorem append_spec (hE : Enc k enc) {σ : AHeap} {e : TypeId} {base : Option Addr} {n cap : Nat} {A : List α} (h : SlAt σ e k enc (.slice base n cap) A) (B : List α) (hl : A.length + B.length ≤ 1048576) :
    ∃ v' σ', appendCells e k base n cap B.length (B.flatMap enc) σ = some (v', σ') ∧ SlAt σ' e k enc v' (A ++ B) ∧ Same σ σ' (blks (.slice base n cap)) ∧ ∀ b ∈ blks v', b ∈ blks (.slice base n cap) ∨ σ.next ≤ b := by
  obtain ⟨a0, c0, hv, hc0⟩ := h.len
  have hn : n = A.length := by injection hv
  have hcap : A.length ≤ cap := by injection hv with _ _ h3; omega
  subst hn
  have hf := h.first hE
  unfold appendCells
  cases hb : (A.length + B.length).ble cap with
  | true =>
    have hle := Nat.le_of_ble_eq_true hb
    simp only
    rcases h with ⟨e1, e2⟩ | ⟨a, j, e1, hj, e2⟩ | ⟨b, o, cap', g, e1, h2, h3, h4⟩
    · injection e1 with e1 e3 e4
      subst e1 e2 e4
      have : B = [] := by simpa using hle
      subst this
      exact ⟨_, _, rfl, .inl ⟨rfl, rfl⟩, .refl _ _, fun b hb => by cases hb⟩
    · injection e1 with e1 e3 e4
      subst e1 e2 e4
      have : B = [] := by simpa using hle
      subst this
      refine ⟨_, _, by simp only [List.flatMap_nil, AE.stCells]; rfl, .inr (.inl ⟨a, j, rfl, hj, rfl⟩), .refl _ _, fun b hb => .inl hb⟩
    · injection e1 with e1 e3 e4
      subst e1 e4
      obtain ⟨σ', p1, p2, p3, p4⟩ := h4.puts hE B hle
      refine ⟨.slice (some ⟨b, o, none⟩) (A.length + B.length) cap, σ', by simp only [p1], .inr (.inr ⟨b, o, cap, g, by rw [List.length_append], by rw [List.length_append]; exact hle, by rw [p2]; exact h3, p4⟩), ⟨by rw [p2]; exact Nat.le_refl _, fun c _ hc => p3 c (by simpa [blks] using hc)⟩, fun c hc => .inl hc⟩
  | false =>
    simp only [hf]
    have c1 : (A.length + B.length).ble 1048576 = true := Nat.ble_eq_true_of_le hl
    have c2 : (A.flatMap enc).length.beq (A.length * k) = true := by rw [flat_len hE, Nat.beq_refl]
    have c3 : (B.flatMap enc).length.beq (B.length * k) = true := by rw [flat_len hE, Nat.beq_refl]
    have c4 : (B.flatMap enc).all single = true := List.all_eq_true.2 fun v hv => by obtain ⟨x, _, hx⟩ := List.mem_flatMap.1 hv; exact hE.single x v hx
    simp only [c1, c2, c3, c4, Bool.and_self]
    have fresh : ∀ τ : AHeap, SlAt (newCells τ e (A.flatMap enc ++ B.flatMap enc) true).2 e k enc (.slice (some ⟨τ.next, 0, none⟩) (A.length + B.length) (A.length + B.length)) (A ++ B) := fun τ => by
      rw [← List.flatMap_append, ← List.length_append]
      exact SlAt.new hE τ e true (A ++ B)
    rcases h with ⟨e1, e2⟩ | ⟨a, j, e1, hj, e2⟩ | ⟨b, o, cap', g, e1, h2, h3, h4⟩
    · injection e1 with e1 e3 e4
      subst e1
      exact ⟨_, _, rfl, fresh σ, .mono (.newCells _ _ _ _) (fun b hb => by cases hb), fun b hb => by simp [blks, newCells_eq] at hb; omega⟩
    · injection e1 with e1 e3 e4
      subst e1
      simp only [hj]
      exact ⟨_, _, rfl, fresh σ, .mono (.newCells _ _ _ _) (fun b hb => by cases hb), fun b hb => by simp [blks, newCells_eq] at hb; omega⟩
    · injection e1 with e1 e3 e4
      subst e1
      obtain ⟨m, c, hg, _⟩ := h4
      simp only [hg]
      cases g with
      | true =>
        simp only [Nat.beq_refl]
        refine ⟨_, _, rfl, fresh (σ.drop b), (Same.drop σ b).trans (.newCells _ _ _ _) (fun c hc => by cases hc), fun c hc => by simp [blks, newCells_eq] at hc; omega⟩
      | false =>
        simp only
        exact ⟨_, _, rfl, fresh σ, .mono (.newCells _ _ _ _) (fun b hb => by cases hb), fun b hb => by simp [blks, newCells_eq] at hb; omega⟩
end
end Go.AE
end
/- Maps whose keys are strings, as the evaluator sees them. -/
section
set_option linter.all false
namespace Go.AE
variable {P : Program}

/-- Pairs by their keys. -/
abbrev Prs := List (ByteArray × Value)
def mget (M : Prs) (s : ByteArray) : Option Value := (M.find? fun p => decide (p.1 = s)).map (·.2)
def mput (M : Prs) (s : ByteArray) (v : Value) : Prs := if (mget M s).isSome then M.map fun p => if p.1 = s then (p.1, v) else p else M ++ [(s, v)]
def mdel (M : Prs) (s : ByteArray) : Prs := M.filter fun p => !decide (p.1 = s)
theorem mget_cons (p : ByteArray × Value) (M : Prs) (s : ByteArray) : mget (p :: M) s = if p.1 = s then some p.2 else mget M s := by
  unfold mget
  by_cases h : p.1 = s <;> simp [List.find?_cons, h]
theorem mget_none {M : Prs} {s : ByteArray} : mget M s = none ↔ s ∉ M.map (·.1) := by
  induction M with
  | nil => simp [mget]
  | cons p M ih => rw [mget_cons]; by_cases h : p.1 = s <;> simp_all [eq_comm]
theorem mget_some {M : Prs} {s : ByteArray} : (mget M s).isSome = true ↔ s ∈ M.map (·.1) := by
  cases h : mget M s with
  | none => simpa using mget_none.1 h
  | some v =>
    simp only [Option.isSome_some, true_iff]
    refine Classical.byContradiction fun q => ?_
    rw [mget_none.2 q] at h
    cases h
theorem mget_append {M N : Prs} {s : ByteArray} : mget (M ++ N) s = (mget M s).or (mget N s) := by
  induction M with
  | nil => simp [mget]
  | cons p M ih => rw [List.cons_append, mget_cons, mget_cons, ih]; by_cases h : p.1 = s <;> simp [h]
theorem mget_map (M : Prs) (s t : ByteArray) (v : Value) : mget (M.map fun p => if p.1 = s then (p.1, v) else p) t = if t = s then (mget M t).map fun _ => v else mget M t := by
  induction M with
  | nil => simp [mget]
  | cons p M ih =>
    rw [List.map_cons, mget_cons, ih, mget_cons]
    by_cases h : p.1 = s
    · by_cases ht : t = s
      · subst ht; simp [h]
      · have : ¬ s = t := fun q => ht q.symm
        simp [h, ht, this]
    · by_cases ht : t = s
      · subst ht; simp [h]
      · simp [h, ht]
theorem mget_mput (M : Prs) (s t : ByteArray) (v : Value) : mget (mput M s v) t = if t = s then some v else mget M t := by
  unfold mput
  split
  · rename_i h
    rw [mget_map]
    split
    · rename_i ht
      subst ht
      cases hm : mget M t with
      | none => rw [hm] at h; cases h
      | some u => rfl
    · rfl
  · rename_i h
    rw [mget_append, mget_cons]
    by_cases ht : t = s
    · subst ht
      have : mget M t = none := by simpa using h
      rw [this]; simp
    · have : ¬ s = t := fun q => ht q.symm
      simp [ht, this, mget]
theorem mget_mdel (M : Prs) (s t : ByteArray) : mget (mdel M s) t = if t = s then none else mget M t := by
  unfold mdel
  induction M with
  | nil => simp [mget]
  | cons p M ih =>
    rw [List.filter_cons]
    by_cases h : p.1 = s
    · simp only [h, decide_true, Bool.not_true, Bool.false_eq_true, if_false]
      rw [ih, mget_cons, h]
      by_cases ht : t = s
      · simp [ht]
      · have : ¬ s = t := fun q => ht q.symm
        simp [ht, this]
    · simp only [h, decide_false, Bool.not_false, if_true]
      rw [mget_cons, mget_cons, ih]
      by_cases ht : t = s
      · subst ht; simp [h]
      · simp [ht]
theorem keys_mput (M : Prs) (s : ByteArray) (v : Value) : (mput M s v).map (·.1) = if (mget M s).isSome then M.map (·.1) else M.map (·.1) ++ [s] := by
  unfold mput
  split
  · rw [List.map_map]; apply List.map_congr_left; intro p _; simp only [Function.comp]; split <;> rfl
  · simp
theorem len_mput (M : Prs) (s : ByteArray) (v : Value) : (mput M s v).length = if (mget M s).isSome then M.length else M.length + 1 := by
  unfold mput
  split <;> simp
theorem keys_mdel (M : Prs) (s : ByteArray) : (mdel M s).map (·.1) = (M.map (·.1)).filter fun t => !decide (t = s) := by
  unfold mdel
  induction M with
  | nil => rfl
  | cons p M ih =>
    rw [List.map_cons, List.filter_cons, List.filter_cons]
    split
    · rw [List.map_cons, ih]
    · exact ih
theorem nodup_mput {M : Prs} (hn : (M.map (·.1)).Nodup) (s : ByteArray) (v : Value) : ((mput M s v).map (·.1)).Nodup := by
  rw [keys_mput]
  split
  · exact hn
  · rename_i h
    refine List.nodup_append.2 ⟨hn, by simp, fun a ha b hb q => ?_⟩
    simp at hb
    subst hb q
    exact h (mget_some.2 ha)
theorem nodup_mdel {M : Prs} (hn : (M.map (·.1)).Nodup) (s : ByteArray) : ((mdel M s).map (·.1)).Nodup := by
  rw [keys_mdel]; exact hn.sublist List.filter_sublist
theorem mdel_not {M : Prs} {s : ByteArray} (h : s ∉ M.map (·.1)) : mdel M s = M := by
  unfold mdel
  refine List.filter_eq_self.2 fun p hp => ?_
  have : ¬ p.1 = s := fun q => h (q ▸ List.mem_map_of_mem hp)
  simp [this]
theorem len_mdel {M : Prs} (hn : (M.map (·.1)).Nodup) {s : ByteArray} (h : s ∈ M.map (·.1)) : (mdel M s).length + 1 = M.length := by
  induction M with
  | nil => cases h
  | cons p M ih =>
    rw [List.map_cons, List.nodup_cons] at hn
    by_cases q : p.1 = s
    · have h2 : s ∉ M.map (·.1) := q ▸ hn.1
      have : mdel (p :: M) s = mdel M s := by unfold mdel; rw [List.filter_cons]; simp [q]
      rw [this, mdel_not h2, List.length_cons]
    · have h2 : s ∈ M.map (·.1) := by
        rcases List.mem_cons.1 h with h | h
        · exact absurd h.symm q
        · exact h
      have : mdel (p :: M) s = p :: mdel M s := by unfold mdel; rw [List.filter_cons]; simp [q]
      rw [this, List.length_cons, ih hn.2 h2, List.length_cons]

/-- A map that holds the pairs. -/
structure MapOf (es : List MapEntry) (cl : Nat) (M : Prs) : Prop where
  prs : es.map (fun e => (e.key, e.val)) = M.map fun p => (Value.string p.1, p.2)
  nodup : (M.map (·.1)).Nodup
  born : bornB cl es 0 = true
  size : ∀ s ∈ M.map (·.1), s.size ≤ 9223372036854775807
def MapAt (σ : AHeap) (m : Nat) (M : Prs) : Prop := ∃ es cl, σ.get m = some (.map es cl false) ∧ MapOf es cl M
theorem MapAt.of_get {σ σ' : AHeap} {m : Nat} {M : Prs} (h : MapAt σ m M) (hg : σ'.get m = σ.get m) : MapAt σ' m M := by
  obtain ⟨es, cl, h1, h2⟩ := h; exact ⟨es, cl, by rw [hg, h1], h2⟩
theorem data_eq {a b : ByteArray} : (a.data.toList == b.data.toList) = decide (a = b) := by
  by_cases h : a = b
  · subst h; simp
  · rw [decide_eq_false h]
    refine Bool.eq_false_iff.2 fun q => h ?_
    cases a with | mk x => cases b with | mk y => simp at q; rw [q]
/-- Where a key stands. -/
theorem findKey_str {kt : TypeId} {s : ByteArray} : ∀ (es : List MapEntry) (M : Prs) (i : Nat), es.map (fun e => (e.key, e.val)) = (M.map fun p => (Value.string p.1, p.2)) →
    (mget M s = none ∧ findKey' P kt true (.string s) es i = some none) ∨
    ∃ j e p, findKey' P kt true (.string s) es i = some (some (i + j, e)) ∧ es[j]? = some e ∧ M[j]? = some p ∧ p.1 = s ∧ e.key = .string s ∧ mget M s = some e.val ∧ p.2 = e.val ∧ ∀ j' p', j' < j → M[j']? = some p' → p'.1 ≠ s
  | [], M, i, h => by
    have : M = [] := by cases M with | nil => rfl | cons => simp at h
    subst this
    exact .inl ⟨by simp [mget], rfl⟩
  | e :: es, [], i, h => by simp at h
  | e :: es, p :: M, i, h => by
    rw [List.map_cons, List.map_cons, List.cons.injEq] at h
    obtain ⟨he, hr⟩ := h
    have hk : e.key = .string p.1 := congrArg Prod.fst he
    have hv : e.val = p.2 := congrArg Prod.snd he
    rw [findKey', hk, mget_cons]
    simp only [keyEq, data_eq]
    by_cases q : s = p.1
    · right
      subst q
      exact ⟨0, e, p, by simp, by simp, by simp, rfl, hk, by simp [hv], hv.symm, fun j' _ hj => by omega⟩
    · have q' : ¬ p.1 = s := fun x => q x.symm
      simp only [decide_eq_false q, if_neg q']
      rcases findKey_str es M (i + 1) hr with h | ⟨j, e', p', h1, h2, h3, h4, h5, h6, h7, h8⟩
      · exact .inl h
      · refine .inr ⟨j + 1, e', p', by rw [h1]; congr 3; omega, by simpa using h2, by simpa using h3, h4, h5, h6, h7, fun j' p'' hj hp => ?_⟩
        cases j' with
        | zero => simp at hp; subst hp; exact q'
        | succ j' => exact h8 j' p'' (by omega) (by simpa using hp)
theorem isStr_of {kt : TypeId} (h : P.underlying kt = some .string) : isStr P kt = true := by simp [isStr, h]
theorem keyOk_of {kt : TypeId} (h : P.underlying kt = some .string) (s : ByteArray) : keyOk P kt (.string s) = true := by simp [keyOk, easyKey, h, plain, plainF]
/-- A key asked. -/
theorem lookup_spec {t kt et : TypeId} (ht : P.underlying t = some (.map kt et)) (hk : P.underlying kt = some .string) {z : Value} (hz : zeroOf P et = some z) {σ : AHeap} {m : Nat} {M : Prs} (h : MapAt σ m M) (s : ByteArray) (ok : Bool) :
    lookup' P t (.map (some m)) (.string s) ok σ = some (if ok then .tuple #[(mget M s).getD z, .bool (mget M s).isSome] else (mget M s).getD z) := by
  obtain ⟨es, cl, h1, h2⟩ := h
  unfold lookup'
  simp only [ht, keyOk_of hk, entriesOf, h1, isStr_of hk]
  rcases findKey_str (P := P) (kt := kt) (s := s) es M 0 h2.prs with ⟨h3, h4⟩ | ⟨j, e, p, h3, _, _, _, _, h4, _⟩
  · simp [h3, h4, hz]
  · simp [h3, h4]
theorem bornB_snoc {cl : Nat} (x : MapEntry) (hx : x.born = cl) : ∀ (es : List MapEntry) (n : Nat), n ≤ cl → bornB cl es n = true → bornB (cl + 1) (es ++ [x]) n = true
  | [], n, hn, _ => by
    simp only [List.nil_append, bornB, hx, Bool.and_true, Bool.and_eq_true]
    exact ⟨Nat.ble_eq_true_of_le hn, Nat.ble_eq_true_of_le (show cl < cl + 1 by omega)⟩
  | e :: r, n, hn, h => by
    rw [bornB, Bool.and_eq_true, Bool.and_eq_true] at h
    have h2 : e.born < cl := Nat.le_of_ble_eq_true h.1.2
    rw [List.cons_append, bornB, Bool.and_eq_true, Bool.and_eq_true]
    exact ⟨⟨h.1.1, Nat.ble_eq_true_of_le (show e.born < cl + 1 by omega)⟩, bornB_snoc x hx r _ (by omega) h.2⟩
theorem bornB_modify {cl : Nat} {f : MapEntry → MapEntry} (hf : ∀ e, (f e).born = e.born) : ∀ (es : List MapEntry) (j n : Nat), bornB cl es n = true → bornB cl (es.modify j f) n = true
  | [], j, n, h => by simp [bornB]
  | e :: r, 0, n, h => by
    rw [List.modify_zero_cons, bornB, hf]
    rwa [bornB] at h
  | e :: r, j + 1, n, h => by
    rw [bornB, Bool.and_eq_true] at h
    rw [List.modify_succ_cons, bornB, Bool.and_eq_true]
    exact ⟨h.1, bornB_modify hf r j _ h.2⟩
theorem bornB_weak {cl : Nat} : ∀ (es : List MapEntry) (n n' : Nat), n' ≤ n → bornB cl es n = true → bornB cl es n' = true
  | [], _, _, _, _ => rfl
  | e :: r, n, n', hn, h => by
    rw [bornB, Bool.and_eq_true, Bool.and_eq_true] at h ⊢
    exact ⟨⟨Nat.ble_eq_true_of_le (by have := Nat.le_of_ble_eq_true h.1.1; omega), h.1.2⟩, h.2⟩
theorem bornB_erase {cl : Nat} : ∀ (es : List MapEntry) (j n : Nat), bornB cl es n = true → bornB cl (es.eraseIdx j) n = true
  | [], j, n, h => by simp [bornB]
  | e :: r, 0, n, h => by
    rw [bornB, Bool.and_eq_true, Bool.and_eq_true] at h
    rw [List.eraseIdx_cons_zero]
    exact bornB_weak r _ _ (by have := Nat.le_of_ble_eq_true h.1.1; omega) h.2
  | e :: r, j + 1, n, h => by
    rw [bornB, Bool.and_eq_true] at h
    rw [List.eraseIdx_cons_succ, bornB, Bool.and_eq_true]
    exact ⟨h.1, bornB_erase r j _ h.2⟩

theorem map_modify {es : List MapEntry} {M : Prs} (h : es.map (fun e => (e.key, e.val)) = (M.map fun p => (Value.string p.1, p.2))) (hn : (M.map (·.1)).Nodup) {j : Nat} {p : ByteArray × Value} (hp : M[j]? = some p) (v : Value) :
    (es.modify j fun e => { e with key := .string p.1, val := v }).map (fun e => (e.key, e.val)) = ((M.map fun q => if q.1 = p.1 then (q.1, v) else q).map fun p => (Value.string p.1, p.2)) := by
  refine List.ext_getElem? fun i => ?_
  have h0 := congrArg (fun l => l[i]?) h
  simp only [List.getElem?_map] at h0
  rw [List.getElem?_map, List.getElem?_map, List.getElem?_map, List.getElem?_modify]
  by_cases hi : j = i
  · subst hi
    rw [hp] at h0 ⊢
    cases he : es[j]? with
    | none => rw [he] at h0; cases h0
    | some e => simp
  · simp only [if_neg hi, id]
    cases hm : M[i]? with
    | none => rw [hm] at h0; simpa using h0
    | some q =>
      rw [hm] at h0
      have hne : ¬ q.1 = p.1 := fun e => hi (by
        have a1 : (M.map (·.1))[j]? = some p.1 := by rw [List.getElem?_map, hp]; rfl
        have a2 : (M.map (·.1))[i]? = some p.1 := by rw [List.getElem?_map, hm, ← e]; rfl
        exact (List.getElem?_inj (List.getElem?_eq_some_iff.1 a1).1 hn).1 (a1.trans a2.symm))
      simp only [Option.map_some, if_neg hne] at h0 ⊢
      cases he : es[i]? with
      | none => rw [he] at h0; cases h0
      | some e => rw [he] at h0; simpa using h0
/-- A key laid. -/
theorem put_spec {t kt et : TypeId} (ht : P.underlying t = some (.map kt et)) (hk : P.underlying kt = some .string) {σ : AHeap} {m : Nat} {M : Prs} (h : MapAt σ m M) {s : ByteArray} (hs : s.size ≤ 9223372036854775807) (v : Value) :
    ∃ o, mapPut P t (.map (some m)) (.string s) v σ = some (σ.set m o) ∧ MapAt (σ.set m o) m (mput M s v) := by
  obtain ⟨es, cl, h1, h2⟩ := h
  unfold mapPut findW
  simp only [ht, keyOk_of hk, h1, isStr_of hk]
  rcases findKey_str (P := P) (kt := kt) (s := s) es M 0 h2.prs with ⟨h3, h4⟩ | ⟨j, e, p, h3, h4, h5, h6, h7, h8, h9, _⟩
  · simp only [h4]
    refine ⟨_, rfl, _, _, by rw [AHeap.get_set, if_pos rfl], ?_, nodup_mput h2.nodup s v, bornB_snoc _ rfl es 0 (Nat.zero_le _) h2.born, ?_⟩
    · unfold mput; rw [h3]; simp [h2.prs]
    · rw [keys_mput, h3]
      intro t ht
      simp at ht
      rcases ht with ⟨w, ht⟩ | rfl
      · exact h2.size t (List.mem_map_of_mem (f := (·.1)) ht)
      · exact hs
  · subst h6
    simp only [h3, h7, Instr.sameBits, plain, plainF, ba_beq, beq_self_eq_true, Bool.and_self, Nat.zero_add]
    refine ⟨.map (es.modify j fun e => { e with key := .string p.1, val := v }) cl false, rfl, es.modify j fun e => { e with key := .string p.1, val := v }, cl, by rw [AHeap.get_set, if_pos rfl], ?_, nodup_mput h2.nodup _ v, bornB_modify (f := fun e => { e with key := .string p.1, val := v }) (fun _ => rfl) es j 0 h2.born, ?_⟩
    · simp only [mput, h8, Option.isSome_some, if_true]; exact map_modify h2.prs h2.nodup h5 v
    · rw [keys_mput, h8]; exact h2.size
theorem map_erase {es : List MapEntry} {M : Prs} (h : es.map (fun e => (e.key, e.val)) = (M.map fun p => (Value.string p.1, p.2))) (hn : (M.map (·.1)).Nodup) {j : Nat} {p : ByteArray × Value} (hp : M[j]? = some p) :
    (es.eraseIdx j).map (fun e => (e.key, e.val)) = ((mdel M p.1).map fun p => (Value.string p.1, p.2)) := by
  have e1 : mdel M p.1 = M.eraseIdx j := by
    clear h
    induction M generalizing j with
    | nil => simp at hp
    | cons q M ih =>
      rw [List.map_cons, List.nodup_cons] at hn
      cases j with
      | zero =>
        simp at hp
        subst hp
        have : mdel (q :: M) q.1 = mdel M q.1 := by unfold mdel; rw [List.filter_cons]; simp
        rw [this, mdel_not hn.1, List.eraseIdx_cons_zero]
      | succ j =>
        have hp' : M[j]? = some p := by simpa using hp
        have hne : ¬ q.1 = p.1 := fun e => hn.1 (by rw [e]; exact List.mem_map_of_mem (f := (·.1)) (List.mem_of_getElem? hp'))
        have : mdel (q :: M) p.1 = q :: mdel M p.1 := by unfold mdel; rw [List.filter_cons]; simp [hne]
        rw [this, ih hn.2 hp', List.eraseIdx_cons_succ]
  rw [e1, List.eraseIdx_eq_take_drop_succ, List.eraseIdx_eq_take_drop_succ, List.map_append, List.map_append, List.map_take, List.map_drop, List.map_take, List.map_drop, h]
/-- A key struck. -/
theorem del_spec {t kt et : TypeId} (ht : P.underlying t = some (.map kt et)) (hk : P.underlying kt = some .string) {σ : AHeap} {m : Nat} {M : Prs} (h : MapAt σ m M) (s : ByteArray) :
    ∃ o, mapDel P t (.map (some m)) (.string s) σ = some (σ.set m o) ∧ MapAt (σ.set m o) m (mdel M s) := by
  obtain ⟨es, cl, h1, h2⟩ := h
  unfold mapDel
  simp only [ht, keyOk_of hk, h1, isStr_of hk]
  rcases findKey_str (P := P) (kt := kt) (s := s) es M 0 h2.prs with ⟨h3, h4⟩ | ⟨j, e, p, h3, h4, h5, h6, h7, h8, h9, _⟩
  · simp only [h4]
    refine ⟨_, rfl, _, _, by rw [AHeap.get_set, if_pos rfl], ?_⟩
    rw [mdel_not (mget_none.1 h3)]
    exact h2
  · subst h6
    simp only [h3, Nat.zero_add]
    refine ⟨_, rfl, _, _, by rw [AHeap.get_set, if_pos rfl], map_erase h2.prs h2.nodup h5, nodup_mdel h2.nodup _, bornB_erase es j 0 h2.born, fun t ht => ?_⟩
    rw [keys_mdel] at ht
    exact h2.size t ((List.mem_filter.1 ht).1)
theorem MapAt.nil (σ : AHeap) : MapAt (σ.new (.map [] 0 false)).2 σ.next [] := ⟨[], 0, by rw [AHeap.get_new, if_pos rfl], rfl, .nil, rfl, by simp⟩
theorem MapAt.nodup {σ : AHeap} {m : Nat} {M : Prs} (h : MapAt σ m M) : (M.map (·.1)).Nodup := by obtain ⟨_, _, _, h2⟩ := h; exact h2.nodup
theorem MapAt.len {σ : AHeap} {m : Nat} {M : Prs} (h : MapAt σ m M) {t kt et : TypeId} (ht : P.underlying t = some (.map kt et)) {ts : Array TypeId} (hts : ts[0]? = some t) : builtin' P .len ts [.map (some m)] σ = some (goInt M.length, σ) := by
  obtain ⟨es, cl, h1, h2⟩ := h
  have : es.length = M.length := by have := congrArg List.length h2.prs; simpa using this
  simp only [builtin', hts, Option.bind_some, ht, h1, this]
end Go.AE
namespace Go.AE
variable {P : Program}
theorem bornIdx_lt {b : Nat} : ∀ (es : List MapEntry) (j n i : Nat) (e : MapEntry), bornB n es i = true → es[j]? = some e → e.born = b → ∀ k, bornIdx es b k = some (k + j)
  | [], j, n, i, e, _, h, _, _ => by simp at h
  | x :: es, 0, n, i, e, _, h, he, k => by
    simp at h; subst h
    rw [bornIdx, he, Nat.beq_refl]; rfl
  | x :: es, j + 1, n, i, e, hb, h, he, k => by
    rw [bornB, Bool.and_eq_true, Bool.and_eq_true] at hb
    have hj : es[j]? = some e := by simpa using h
    have h2 := ((bornB_spec es _ hb.2).1 e (List.mem_of_getElem? hj)).1
    have : x.born.beq b = false := Bool.eq_false_iff.2 fun q => by have := Nat.eq_of_beq_eq_true q; omega
    rw [bornIdx, this]
    simp only
    rw [bornIdx_lt es j n _ e hb.2 hj he (k + 1)]
    congr 1; omega
/-- A key laid in two steps: its entry made, then what stands there. -/
theorem entry_spec {t kt et : TypeId} (ht : P.underlying t = some (.map kt et)) (hk : P.underlying kt = some .string) {z : Value} (hz : zeroOf P et = some z) {σ : AHeap} {m : Nat} {M : Prs} (h : MapAt σ m M) {s : ByteArray} (hs : s.size ≤ 9223372036854775807) (v : Value) :
    ∃ v0 b o1 o2, mapEntry' P t (.map (some m)) (.string s) σ = some (.tuple #[v0, .int .i64 (b : Nat)], σ.set m o1) ∧ entryStore' (.map (some m)) (.int .i64 (b : Nat)) v (σ.set m o1) = some ((σ.set m o1).set m o2) ∧ MapAt ((σ.set m o1).set m o2) m (mput M s v) := by
  obtain ⟨es, cl, h1, h2⟩ := h
  unfold mapEntry' findW
  simp only [ht, keyOk_of hk, h1, isStr_of hk]
  rcases findKey_str (P := P) (kt := kt) (s := s) es M 0 h2.prs with ⟨h3, h4⟩ | ⟨j, e, p, h3, h4, h5, h6, h7, h8, h9, _⟩
  · simp only [h4, hz]
    have hborn := bornB_snoc { key := .string s, val := z, born := cl } rfl es 0 (Nat.zero_le _) h2.born
    have hix := bornIdx_lt (b := cl) (es ++ [{ key := .string s, val := z, born := cl }]) es.length (cl + 1) 0 { key := .string s, val := z, born := cl } hborn (by simp) rfl 0
    rw [Nat.zero_add] at hix
    refine ⟨z, cl, .map (es ++ [{ key := .string s, val := z, born := cl }]) (cl + 1) false, .map (List.modify (es ++ [({ key := .string s, val := z, born := cl } : MapEntry)]) es.length fun (e : MapEntry) => { e with val := v }) (cl + 1) false, rfl, ?_, _, cl + 1, by rw [AHeap.get_set, if_pos rfl], ?_, nodup_mput h2.nodup s v, bornB_modify (f := fun e => { e with val := v }) (fun _ => rfl) _ _ 0 hborn, ?_⟩
    · simp only [entryStore', natOf, AHeap.get_set, if_pos, hix]
    · have e1 : List.modify (es ++ [({ key := .string s, val := z, born := cl } : MapEntry)]) es.length (fun (e : MapEntry) => { e with val := v }) = es ++ [({ key := .string s, val := v, born := cl } : MapEntry)] := by
        clear hix hborn h4 h2 h1
        induction es with
        | nil => rfl
        | cons x r ih => rw [List.cons_append, List.length_cons, List.modify_succ_cons, ih, List.cons_append]
      rw [e1]
      simp [mput, h3, h2.prs]
    · rw [keys_mput, h3]
      intro t ht
      simp at ht
      rcases ht with ⟨w, ht⟩ | rfl
      · exact h2.size t (List.mem_map_of_mem (f := (·.1)) ht)
      · exact hs
  · subst h6
    simp only [h3, h7, Instr.sameBits, plain, plainF, ba_beq, beq_self_eq_true, Bool.and_self, Nat.zero_add]
    have hborn := bornB_modify (f := fun e => { e with key := .string p.1 }) (fun _ => rfl) es j 0 h2.born
    have hix := bornIdx_lt (b := e.born) (es.modify j fun e => { e with key := .string p.1 }) j cl 0 { e with key := .string p.1 } hborn (by rw [List.getElem?_modify]; simp [h4]) rfl 0
    rw [Nat.zero_add] at hix
    refine ⟨e.val, e.born, .map (es.modify j fun e => { e with key := .string p.1 }) cl false, .map ((es.modify j fun e => { e with key := .string p.1 }).modify j fun e => { e with val := v }) cl false, rfl, ?_, _, cl, by rw [AHeap.get_set, if_pos rfl], ?_, nodup_mput h2.nodup _ v, bornB_modify (f := fun e => { e with val := v }) (fun _ => rfl) _ _ 0 hborn, ?_⟩
    · simp only [entryStore', natOf, AHeap.get_set, if_pos, hix]
    · have e1 : (es.modify j (fun e => { e with key := .string p.1 })).modify j (fun e => { e with val := v }) = es.modify j fun e => { e with key := .string p.1, val := v } := by
        refine List.ext_getElem? fun i => ?_
        rw [List.getElem?_modify, List.getElem?_modify, List.getElem?_modify]
        by_cases hi : j = i
        · subst hi; cases es[j]? <;> simp
        · simp [hi]
      rw [e1]
      simp only [mput, h8, Option.isSome_some, if_true]
      exact map_modify h2.prs h2.nodup h5 v
    · rw [keys_mput, h8]; exact h2.size
end Go.AE
namespace Go.AE
theorem Same.ld {σ σ' : AHeap} {F : List Nat} (h : Same σ σ' F) {b : Nat} (hb : b < σ.next) (hF : b ∉ F) (o : Nat) : AE.ld σ' b o = AE.ld σ b o := by simp only [AE.ld, h.get b hb hF]
theorem Same.ldCells {σ σ' : AHeap} {F : List Nat} (h : Same σ σ' F) {b : Nat} (hb : b < σ.next) (hF : b ∉ F) (o n : Nat) : AE.ldCells σ' b o n = AE.ldCells σ b o n := by
  unfold AE.ldCells
  split
  · rfl
  · simp only [h.get b hb hF]
end Go.AE
namespace Go.AE
theorem Same.app {σ1 σ2 σ3 : AHeap} {F G : List Nat} (h : Same σ1 σ2 F) (k : Same σ2 σ3 G) : Same σ1 σ3 (F ++ G) :=
  (h.mono fun b hb => List.mem_append.2 (.inl hb)).trans k fun b hb => .inl (List.mem_append.2 (.inr hb))
/-- What is new may be left out. -/
theorem Same.old {σ σ' : AHeap} {F G : List Nat} (h : Same σ σ' F) (hF : ∀ b ∈ F, b ∈ G ∨ σ.next ≤ b) : Same σ σ' G :=
  ⟨h.next, fun b hb hn => h.get b hb fun q => by rcases hF b q with r | r; exact hn r; omega⟩
end Go.AE
end
/- Slices cut, cells laid anew, appends. -/
section
set_option linter.all false
namespace Go.AE
variable {P : Program}
section
variable {α : Type} {k : Nat} {enc : α → List Value}
theorem slice_hi {t e len cap o b h : Nat} {g : Bool} {kk : IntKind} {σ : AHeap} {A : List α} (ht : P.underlying t = some (.slice e)) (hs : sizeOf' P e = some k) (hr : ArrAt σ b e g k enc o A cap) (hl : len ≤ cap) (hh : h ≤ cap) (hc : 0 < cap) :
    sliceOp P t (.slice (some ⟨b, o, none⟩) len cap) none (some (.int kk (h : Int))) none σ = some (.slice (some ⟨b, o, none⟩) h cap) := by
  obtain ⟨n, c, h1, _⟩ := hr
  have hu : ubound (.int kk (h : Int)) cap = some h := by
    show (match h.ble cap with | true => some h | false => none) = some h
    rw [Nat.ble_eq_true_of_le hh]
  have hb : (!g || e.beq e) = true := by rw [Nat.beq_refl, Bool.or_true]
  have hz : cap.beq 0 = false := Bool.eq_false_iff.2 fun q => by have := Nat.eq_of_beq_eq_true q; omega
  simp only [sliceOp, ht, hs, Nat.ble_eq_true_of_le hl, bounds, hu, lowB, h1, hb, sliceRow, hz, Nat.zero_mul, Addr.add, if_true, Nat.sub_zero]
theorem append_eq {t e x size : Nat} {z : List Value} (ht : P.underlying t = some (.slice e)) (hx : P.underlying x = some (.slice e)) (he : elemOk P e = some (size, z)) {base a : Option Addr} {n cap m c : Nat} {cs : List Value} {σ : AHeap} (hf : firstCells' size m σ (.slice a m c) = some cs) :
    builtin' P .append #[t, x] [.slice base n cap, .slice a m c] σ = appendCells e size base n cap m cs σ := by
  have h0 : (#[t, x] : Array TypeId)[0]? = some t := rfl
  have h1 : (#[t, x] : Array TypeId)[1]? = some x := rfl
  simp only [builtin', h0, h1, Option.bind_some, append', ht, he, hx, lenOf', hf]
end
/-- Cells laid into a new variable. -/
theorem alloc_store {σ : AHeap} {e : TypeId} {zs vs : List Value} {g : Bool} (hs : ∀ v ∈ vs, single v = true) (hl : vs.length ≤ zs.length) :
    ∃ σ', stCells (newCells σ e zs g).2 σ.next 0 vs = some σ' ∧ (∀ (o : Nat) v, vs[o]? = some v → ld σ' σ.next o = some v) ∧ ldCells σ' σ.next 0 vs.length = some vs ∧ Same σ σ' [] ∧ σ'.next = σ.next + 1 := by
  obtain ⟨c', hc, hg⟩ := stN_of (c := Tr.leaf) vs (Tr.ofList zs 0 .leaf) 0 hs fun j hj => by rw [Tr.get_of, Nat.zero_add, List.getElem?_eq_getElem (by omega)]; rfl
  cases vs with
  | nil => exact ⟨_, rfl, fun o v h => by simp at h, rfl, .newCells _ _ _ _, rfl⟩
  | cons v vs =>
    have e1 : stCells (newCells σ e zs g).2 σ.next 0 (v :: vs) = some ((newCells σ e zs g).2.set σ.next (.cells zs.length c' e g false)) := by
      simp only [stCells, get_newCells, if_pos, hc]
    have hcell : ∀ (o : Nat) u, (v :: vs)[o]? = some u → c'.get (0 + o) = some u := fun o u hu => by
      have ho := (List.getElem?_eq_some_iff.1 hu).1
      rw [hg, if_pos (by omega), Nat.zero_add, Nat.sub_zero]
      exact hu
    refine ⟨_, e1, fun o u hu => ?_, ?_, ?_, rfl⟩
    · simp only [ld, AHeap.get_set, if_pos]
      have := hcell o u hu
      rwa [Nat.zero_add] at this
    · simp only [ldCells, List.length_cons, AHeap.get_set, if_pos]
      exact ldN_of (v :: vs) 0 hcell
    · refine ⟨by simp [next_newCells], fun b hb _ => ?_⟩
      rw [AHeap.get_set, if_neg (by omega), get_newCells, if_neg (by omega)]
/-- A variable's cells laid over. -/
theorem store_cells {σ : AHeap} {b n : Nat} {c : Tr Value} {e : TypeId} {g : Bool} (h : σ.get b = some (.cells n c e g false)) {off : Nat} {vs : List Value} (hs : ∀ v ∈ vs, single v = true) (hj : ∀ j, j < vs.length → (c.get (off + j)).isSome) :
    ∃ σ' c', stCells σ b off vs = some σ' ∧ σ'.get b = some (.cells n c' e g false) ∧ (∀ i, c'.get i = if off ≤ i ∧ i < off + vs.length then vs[i - off]? else c.get i) ∧ Same σ σ' [b] ∧ σ'.next = σ.next := by
  obtain ⟨c', hc, hg⟩ := stN_of (c := Tr.leaf) vs c off hs hj
  cases vs with
  | nil => exact ⟨σ, c, rfl, h, fun i => by simp; intro h1 h2; omega, .refl _ _, rfl⟩
  | cons v vs =>
    refine ⟨_, c', by simp only [stCells, h, hc]; rfl, by rw [AHeap.get_set, if_pos rfl], hg, .set _ _ _, rfl⟩
end Go.AE
namespace Go.AE
variable {P : Program} {call : CallF} {n : Nat}
/-! A loop with what holds at its head. -/
def KInv (I : Nat → AFr → AHeap → Prop) (k : Nat) (Q : AExit × AFr × AHeap → Prop) : AExit × AFr × AHeap → Prop
  | (.normal, fr, σ) => ∃ k', k' < k ∧ I k' fr σ
  | r => Q r
theorem KInv_normal {I : Nat → AFr → AHeap → Prop} {k : Nat} {Q} {fr : AFr} {σ : AHeap} : KInv I k Q (.normal, fr, σ) = ∃ k', k' < k ∧ I k' fr σ := rfl
theorem KInv_exit {I : Nat → AFr → AHeap → Prop} {k i : Nat} {Q} {fr : AFr} {σ : AHeap} : KInv I k Q (.exit i, fr, σ) = Q (.exit i, fr, σ) := rfl
theorem KInv_ret {I : Nat → AFr → AHeap → Prop} {k : Nat} {Q} {fr : AFr} {σ : AHeap} : KInv I k Q (.ret, fr, σ) = Q (.ret, fr, σ) := rfl
theorem W_inv {body : Code} {fr : AFr} {σ : AHeap} {Q : AExit × AFr × AHeap → Prop} (I : Nat → AFr → AHeap → Prop) (k : Nat) (hk : k < n) (hi : I k fr σ)
    (hs : ∀ k fr σ, I k fr σ → W (exec P call n body fr σ) (KInv I k Q)) : W (exec P call n (.loop body) fr σ) Q := by
  refine W_loop_exec I k hk hi fun k fr σ h => (hs k fr σ h).mono fun r hr => ?_
  obtain ⟨e, f, s⟩ := r
  cases e <;> exact hr
theorem bin_quo2 {t : TypeId} {x y : Operand} {k : IntKind} {a : Int} : bin P .quo t x y (.int k a) (.int k 2) = some (.int k (k.wrap (a.tdiv 2))) := bin_quo (by decide)
theorem wrap64_m1 : IntKind.i64.wrap (0 - 1) = -1 := by decide
theorem wrap64_half : IntKind.i64.wrap ((-1 : Int).tdiv 2) = 0 := by decide
end Go.AE
namespace Go.AE
variable {P : Program}
/-- A result that stands in a variable. -/
def loadC (P : Program) (t : TypeId) (v : Value) (σ : AHeap) : Option Value := match v with
  | .pointer (some ⟨b, off, none⟩) => ldVar P t σ b off
  | _ => none
theorem loadC_ptr {t b o : Nat} {σ : AHeap} : loadC P t (.pointer (some ⟨b, o, none⟩)) σ = ldVar P t σ b o := rfl
theorem rs_ct {fn : Func} {fr : AFr} {σ : AHeap} {a t u : Nat} (h : fn.results = #[.cell a t, .tmp u]) : results' P fn fr σ = (loadC P t (fr.at_ a) σ).map fun v => .tuple #[v, fr.at_ u] := by
  have : resOne P fr σ (.cell a t) = loadC P t (fr.at_ a) σ := by
    simp only [resOne, loadC]
    generalize fr.at_ a = v
    cases v <;> rfl
  unfold results'
  rw [h]
  simp only [resAll, this, resOne_tmp]
  cases loadC P t (fr.at_ a) σ <;> rfl
theorem rs_c {fn : Func} {fr : AFr} {σ : AHeap} {a t : Nat} (h : fn.results = #[.cell a t]) : results' P fn fr σ = loadC P t (fr.at_ a) σ := by
  have : resOne P fr σ (.cell a t) = loadC P t (fr.at_ a) σ := by
    simp only [resOne, loadC]
    generalize fr.at_ a = v
    cases v <;> rfl
  unfold results'
  rw [h]
  simp only [resAll, this]
  cases loadC P t (fr.at_ a) σ <;> rfl
end Go.AE
namespace Go.AE
section
variable {α : Type} {k : Nat} {enc : α → List Value}
/-- A part of a thing laid. -/
theorem ArrAt.putField {σ : AHeap} {b : Nat} {e : TypeId} {g : Bool} {o cap : Nat} {A : List α} (hE : Enc k enc) (h : ArrAt σ b e g k enc o A cap) {i j : Nat} {x y : α} (hi : A[i]? = some x) (hc : A.length ≤ cap) {v : Value} (hv : single v = true) (hj : j < k) (hy : enc y = (enc x).set j v) :
    ∃ ob, AE.stCells σ b (o + i * k + j) [v] = some (σ.set b ob) ∧ ArrAt (σ.set b ob) b e g k enc o (A.set i y) cap := by
  obtain ⟨n, c, h1, h2, h3⟩ := h
  have li : i < A.length := (List.getElem?_eq_some_iff.1 hi).1
  have hle : i * k + k ≤ cap * k := by have := Nat.mul_le_mul_right k (show i + 1 ≤ cap by omega); rwa [Nat.add_mul, Nat.one_mul] at this
  obtain ⟨c', hcc, hg⟩ := stN_of (c := c) [v] c (o + i * k + j) (by intro u hu; simp at hu; subst hu; exact hv) fun q hq => by
    simp at hq; subst hq
    have := h3 (i * k + j) (by omega)
    rwa [← Nat.add_assoc] at this
  refine ⟨.cells n c' e g false, by simp only [AE.stCells, h1, hcc], n, c', by simp, fun i' z hz q u hq => ?_, fun q hq => ?_⟩
  · have hql : q < k := by have := (List.getElem?_eq_some_iff.1 hq).1; rwa [hE.len] at this
    rw [hg]
    by_cases ei : i' = i
    · subst ei
      rw [List.getElem?_set_self li] at hz
      cases hz
      rw [hy] at hq
      by_cases eq : q = j
      · subst eq
        rw [List.getElem?_set_self (by rw [hE.len]; exact hj)] at hq
        cases hq
        rw [if_pos (by simp), Nat.sub_self]; rfl
      · rw [List.getElem?_set_ne (fun e => eq e.symm)] at hq
        rw [if_neg (by simp; omega)]
        exact h2 i' x hi q u hq
    · rw [List.getElem?_set_ne (fun e => ei e.symm)] at hz
      rw [if_neg]
      · exact h2 i' z hz q u hq
      · simp only [List.length_singleton]
        intro hh
        rcases Nat.lt_or_gt_of_ne ei with w | w
        · have := Nat.mul_le_mul_right k (show i' + 1 ≤ i from w); rw [Nat.add_mul, Nat.one_mul] at this; omega
        · have := Nat.mul_le_mul_right k (show i + 1 ≤ i' from w); rw [Nat.add_mul, Nat.one_mul] at this; omega
  · rw [hg]
    split
    · rename_i hh
      simp at hh
      rw [show o + q - (o + i * k + j) = 0 by omega]; rfl
    · exact h3 q hq
end
end Go.AE
end
/- Variables of known cells. -/
section
set_option linter.all false
namespace Go.AE
variable {P : Program}
def VarAt (σ : AHeap) (b : Nat) (vs : List Value) : Prop := b < σ.next ∧ ∃ n c e g, σ.get b = some (.cells n c e g false) ∧ ∀ (o : Nat) v, vs[o]? = some v → c.get o = some v
theorem VarAt.same {σ σ' : AHeap} {F : List Nat} {b : Nat} {vs : List Value} (h : VarAt σ b vs) (hs : Same σ σ' F) (hF : b ∉ F) : VarAt σ' b vs := by
  obtain ⟨h0, n, c, e, g, h1, h2⟩ := h
  exact ⟨Nat.lt_of_lt_of_le h0 hs.next, n, c, e, g, by rw [hs.get b h0 hF]; exact h1, h2⟩
theorem VarAt.ld {σ : AHeap} {b : Nat} {vs : List Value} (h : VarAt σ b vs) {o : Nat} {v : Value} (ho : vs[o]? = some v) : AE.ld σ b o = some v := by
  obtain ⟨h0, n, c, e, g, h1, h2⟩ := h
  simp only [AE.ld, h1]
  exact h2 o v ho
theorem VarAt.ldCells {σ : AHeap} {b : Nat} {vs : List Value} (h : VarAt σ b vs) : AE.ldCells σ b 0 vs.length = some vs := by
  obtain ⟨h0, n, c, e, g, h1, h2⟩ := h
  unfold AE.ldCells
  split
  · rename_i q; rw [List.eq_nil_of_length_eq_zero q]
  · simp only [h1]
    exact ldN_of vs 0 fun j v hj => by rw [Nat.zero_add]; exact h2 j v hj
theorem VarAt.new (σ : AHeap) (e : TypeId) (zs : List Value) (g : Bool) : VarAt (newCells σ e zs g).2 σ.next zs :=
  ⟨by rw [next_newCells]; omega, _, _, _, _, by rw [get_newCells, if_pos rfl], fun o v h => by rw [Tr.get_of]; exact h⟩
theorem VarAt.store {σ : AHeap} {b : Nat} {vs vs' : List Value} (h : VarAt σ b vs) (hl : vs'.length = vs.length) (hs : ∀ v ∈ vs', single v = true) : ∃ σ', stCells σ b 0 vs' = some σ' ∧ VarAt σ' b vs' ∧ Same σ σ' [b] ∧ σ'.next = σ.next := by
  obtain ⟨h0, n, c, e, g, h1, h2⟩ := h
  obtain ⟨σ', c', a1, a2, a3, a4, a5⟩ := store_cells h1 (off := 0) hs fun j hj => by rw [Nat.zero_add, h2 j vs[j] (List.getElem?_eq_getElem (by omega))]; rfl
  refine ⟨σ', a1, ⟨by rw [a5]; exact h0, n, c', e, g, a2, fun o v ho => ?_⟩, a4, a5⟩
  have := (List.getElem?_eq_some_iff.1 ho).1
  rw [a3, if_pos (by omega), Nat.sub_zero]
  exact ho
theorem VarAt.storeAt {σ : AHeap} {b i : Nat} {vs : List Value} (h : VarAt σ b vs) (hi : i < vs.length) {v : Value} (hs : single v = true) : ∃ σ', stCells σ b i [v] = some σ' ∧ VarAt σ' b (vs.set i v) ∧ Same σ σ' [b] ∧ σ'.next = σ.next := by
  obtain ⟨h0, n, c, e, g, h1, h2⟩ := h
  obtain ⟨σ', c', a1, a2, a3, a4, a5⟩ := store_cells h1 (off := i) (vs := [v]) (by intro u hu; simp at hu; subst hu; exact hs) fun j hj => by simp at hj; subst hj; rw [Nat.add_zero, h2 i vs[i] (List.getElem?_eq_getElem hi)]; rfl
  refine ⟨σ', a1, ⟨by rw [a5]; exact h0, n, c', e, g, a2, fun o u ho => ?_⟩, a4, a5⟩
  rw [a3]
  by_cases q : o = i
  · subst q
    rw [List.getElem?_set_self hi] at ho
    rw [if_pos (by simp), Nat.sub_self]
    simpa using ho
  · rw [List.getElem?_set_ne (fun e => q e.symm)] at ho
    rw [if_neg (by simp; omega)]
    exact h2 o u ho
end Go.AE
namespace Go.AE
variable {P : Program}
section
variable {α : Type} {k : Nat} {enc : α → List Value}
/-- A slice that is only read. -/
def SlR (σ : AHeap) (k : Nat) (enc : α → List Value) (v : Value) (A : List α) : Prop :=
  (∃ a c, v = .slice a 0 c ∧ A = []) ∨ ∃ b o cap, v = .slice (some ⟨b, o, none⟩) A.length cap ∧ b < σ.next ∧ ∀ i x, A[i]? = some x → ldCells σ b (o + i * k) k = some (enc x)
theorem SlR.same {σ σ' : AHeap} {F : List Nat} {v : Value} {A : List α} (h : SlR σ k enc v A) (hs : Same σ σ' F) (hF : ∀ b ∈ blks v, b ∉ F) : SlR σ' k enc v A := by
  rcases h with h | ⟨b, o, cap, h1, h2, h3⟩
  · exact .inl h
  · subst h1
    exact .inr ⟨b, o, cap, rfl, Nat.lt_of_lt_of_le h2 hs.next, fun i x hi => by rw [hs.ldCells h2 (hF b (by simp [blks]))]; exact h3 i x hi⟩
theorem SlR.len {σ : AHeap} {v : Value} {A : List α} (h : SlR σ k enc v A) : ∃ a c, v = .slice a A.length c := by
  rcases h with ⟨a, c, rfl, rfl⟩ | ⟨b, o, cap, rfl, _⟩
  · exact ⟨a, c, rfl⟩
  · exact ⟨_, _, rfl⟩
theorem SlR.at_ {σ : AHeap} {v : Value} {A : List α} (h : SlR σ k enc v A) {i : Nat} {x : α} (hi : A[i]? = some x) : ∃ b o cap, v = .slice (some ⟨b, o, none⟩) A.length cap ∧ b < σ.next ∧ ldCells σ b (o + i * k) k = some (enc x) := by
  rcases h with ⟨a, c, rfl, rfl⟩ | ⟨b, o, cap, rfl, h2, h3⟩
  · simp at hi
  · exact ⟨b, o, cap, rfl, h2, h3 i x hi⟩
theorem SlAt.toR (hE : Enc k enc) {σ : AHeap} {e : TypeId} {v : Value} {A : List α} (h : SlAt σ e k enc v A) : SlR σ k enc v A := by
  rcases h with ⟨rfl, rfl⟩ | ⟨a, j, rfl, _, rfl⟩ | ⟨b, o, cap, g, rfl, _, h3, h4⟩
  · exact .inl ⟨_, _, rfl, rfl⟩
  · exact .inl ⟨_, _, rfl, rfl⟩
  · exact .inr ⟨b, o, cap, rfl, h3, fun i x hi => h4.ldCells hE hi⟩
end
/-- A word's beginning. -/
def cut (h : Nat) (s : ByteArray) : ByteArray := ⟨(s.data.toList.take h).toArray⟩
theorem min_int {t u : TypeId} {k : IntKind} {a b : Int} {σ : AHeap} : builtin' P .min #[t, u] [.int k a, .int k b] σ = some (.int k (if b < a then b else a), σ) := by
  simp only [builtin', mmAll, mm, atom, Bool.and_self, if_true]
  simp [Builtin.min2, pureP, atomic, atom]
  by_cases h : b < a <;> simp [h, pureP_pure, atomic, atom]
theorem max_int {t u : TypeId} {k : IntKind} {a b : Int} {σ : AHeap} : builtin' P .max #[t, u] [.int k a, .int k b] σ = some (.int k (if a < b then b else a), σ) := by
  simp only [builtin', mmAll, mm, atom, Bool.and_self, if_true]
  simp [Builtin.max2, atomic, atom]
  by_cases h : a < b <;> simp [h, pureP_pure, atom]
end Go.AE
end
/- The step laws, gathered. -/
section
set_option linter.all false
set_option linter.defProp false
namespace Go.AE
def B0 := And.intro @plainD_region (And.intro @plainD_cons (And.intro @plainD_seq (And.intro @plainD_cond (And.intro @plainD_block (And.intro @plainD_loop (And.intro @plainD_scope (And.intro @plainD_skip (And.intro @plainD_ret (And.intro @plainD_exit (And.intro @W_skip (And.intro @W_ret (And.intro @W_exit (And.intro @W_scope (And.intro @W_seq (And.intro @W_block (And.intro @W_cond (And.intro @W_region (And.intro @W_ops_nil (@W_ops)))))))))))))))))))
def B1 := And.intro @W_ops_guard (And.intro @W_some (And.intro @W_none (And.intro @KSeq_normal (And.intro @KSeq_exit (And.intro @KSeq_ret (And.intro @KBlk_normal (And.intro @KBlk_ret (And.intro @KBlk_exit (And.intro @KReg_mk (And.intro @KOp_mk (And.intro @KRet_normal (And.intro @KRet_ret (And.intro @Wc_true (And.intro @Wc_false (And.intro @WGo_tt (And.intro @WGo_ff (And.intro @WGo_tf (And.intro @WGo_ft (@WGt_tt)))))))))))))))))))
def B2 := And.intro @WGt_ff (And.intro @WGt_tf (And.intro @WGt_ft (And.intro @WGo_un (And.intro @WGt_un (And.intro @aop_move (And.intro @aop_assign (And.intro @aop_pick (And.intro @aop_alloc (And.intro @aop_box (And.intro @aop_build (And.intro @aop_load (And.intro @aop_store (And.intro @aop_nilCheck (And.intro @aop_binOp (And.intro @aop_unOp (And.intro @aop_convert (And.intro @aop_makeInterface (And.intro @aop_makeFunc (@aop_makeMap)))))))))))))))))))
def B3 := And.intro @aop_slice (And.intro @aop_fieldAddr (And.intro @aop_field (And.intro @aop_indexAddr (And.intro @aop_index (And.intro @aop_lookup (And.intro @aop_mapUpdate (And.intro @aop_extract (And.intro @aop_builtin (And.intro @aop_call (And.intro @aop_invoke (And.intro @aop_typeAssert (And.intro @aop_buildSlice (And.intro @eval_tmp (And.intro @eval_const (And.intro @eval_func (And.intro @put_none (And.intro @put_mk (And.intro @at_mk (@get_put)))))))))))))))))))
def B4 := And.intro @get_args (And.intro @withH_some (And.intro @nilV_ptr (And.intro @nilV_iface (And.intro @pickV_true (And.intro @pickV_false (And.intro @loadV_ptr (And.intro @callV_func (And.intro @allocV_zero (And.intro @W_tr_nil (And.intro @W_tr (And.intro @W_tr_guard (And.intro @KTr_mk (And.intro @KRe_mk (And.intro @W_loopN (And.intro @KLoop_normal (And.intro @KLoop_exit (And.intro @KLoop_ret (And.intro @retold_nil (@retold_cons)))))))))))))))))))
def B5 := And.intro @RetAt_mk (And.intro @RetAt_last (And.intro @retells_eq (And.intro @sameV_int (And.intro @sameV_string (And.intro @sameV_bool (And.intro @sameV_ptr (And.intro @sameV_map (And.intro @sameV_slice (And.intro @loadC_ptr (And.intro @KInv_exit (And.intro @KInv_ret (And.intro @bin_quo2 (And.intro @wrap64_m1 (And.intro @wrap64_half (And.intro @idx_zero (And.intro @idx_one (And.intro @idx_cast (And.intro @wrap64_1 (@wrap64_2)))))))))))))))))))
def B6 := And.intro @bin_lss (And.intro @bin_leq (And.intro @bin_gtr (And.intro @bin_geq (And.intro @bin_ieql (And.intro @bin_ineq (And.intro @bin_add (And.intro @bin_sub (And.intro @bin_mul (And.intro @bin_slss (And.intro @bin_sgtr (And.intro @bin_seql (And.intro @bin_sneq (@un_not)))))))))))))
def B7 := And.intro @List.append_eq.{0} (And.intro @List.map_cons.{0,0} (And.intro @List.map_nil.{0,0} (And.intro @List.nil_append.{0} (And.intro @List.cons_append.{0} (And.intro @List.append_nil.{0} (And.intro @List.getElem?_cons_zero.{0} (And.intro @List.getElem?_cons_succ.{0} (And.intro @List.getElem?_nil.{0} (And.intro @List.length_cons.{0} (And.intro @List.length_nil.{0} (And.intro @Option.map_some.{0,0} (And.intro @Option.map_none.{0,0} (And.intro @Option.getD_some.{0} (And.intro @Option.getD_none.{0} (And.intro @Option.bind_some.{0,0} (And.intro @Option.some.injEq.{0} (And.intro @Nat.zero_add (And.intro @Nat.add_zero (And.intro @Int.cast_ofNat_Int (And.intro @Int.lt_irrefl (And.intro @decide_true (And.intro @decide_false (And.intro @Bool.not_true (And.intro @Bool.not_false (And.intro @and_true (And.intro @true_and (And.intro @List.getElem?_toArray.{0} (@Array.toList_map.{0,0}))))))))))))))))))))))))))))
end Go.AE
end
/- Structs compared. -/
section
set_option linter.all false
namespace Go.AE
variable {P : Program}
theorem pureP_bind {α β : Type} (f : α → Sem β) : ∀ s : Sem α, pureP P (s >>= f) = (pureP P s).bind fun a => pureP P (f a) := by
  intro s
  induction s with
  | pure a => rfl
  | program k ih => exact ih P
  | _ => rfl
theorem pureP_under {t : TypeId} {d : TypeDesc} (h : P.underlying t = some d) : pureP P (underlying t) = some d := by
  show pureP P (match P.underlying t with | some d => pure d | none => stuck "no such type") = _
  rw [h]; rfl
theorem part_cell {t o : Nat} {xs : Array Value} {v : Value} (h : isAgg' P t = some false) (hx : xs[o]? = some v) : pureP P (part t xs o) = some v := by
  unfold isAgg' at h
  unfold part
  have : pureP P (isAgg t) = some false := by
    unfold isAgg
    cases hu : P.underlying t with
    | none => rw [hu] at h; cases h
    | some d =>
      rw [hu] at h
      simp only [pureP_bind, pureP_under hu, Option.bind_some]
      cases d <;> first | rfl | simp at h
  simp [pureP_bind, this, hx, pureP_pure]
theorem eq_int {t d : Nat} {k kk : IntKind} {a b : Int} (h : P.underlying t = some (.int kk)) : pureP P (Op.equalIn (d + 1) t (.int k a) (.int k b)) = some (decide (a = b)) := by
  simp only [Op.equalIn, pureP_bind, pureP_under h, Option.bind_some]
  simp [pureP_pure, int_beq]
theorem bin_agg {t : Nat} {xs ys : Array Value} {x y : Operand} {r : Bool} (hg : P.eqGuardType P.depth t = false) (h : eqV P t (.agg xs) (.agg ys) = some r) : bin P .eql t x y (.agg xs) (.agg ys) = some (.bool r) := by
  simp [bin, isEq, hg, h]
end Go.AE
end
/- One thing appended to a slice. -/
section
set_option linter.all false
namespace Go.AE
variable {P : Program}
section
variable {α : Type} {k : Nat} {enc : α → List Value}
theorem append_one (hE : Enc k enc) {t u e : TypeId} {z : List Value} (ht : P.underlying t = some (.slice e)) (hu : P.underlying u = some (.slice e)) (he : elemOk P e = some (k, z)) (hz : z.length = k) (hk : k ≤ 1048576)
    {σ : AHeap} {a : Option Addr} {n c : Nat} {A : List α} (h : SlAt σ e k enc (.slice a n c) A) (x : α) {xv : Value} (hx : xv.cells = (enc x).toArray) (hl : A.length + 1 ≤ 1048576) :
    ∃ σ1 v' σ2, buildSliceV P u 1 [(0, xv)] σ = some (.slice (some ⟨σ.next, 0, none⟩) 1 1, σ1) ∧ builtin' P .append #[t, u] [.slice a n c, .slice (some ⟨σ.next, 0, none⟩) 1 1] σ1 = some (v', σ2) ∧
      SlAt σ2 e k enc v' (A ++ [x]) ∧ Same σ σ2 (blks (.slice a n c)) ∧ (∀ b ∈ blks v', b ∈ blks (.slice a n c) ∨ σ.next ≤ b) ∧ Same σ σ1 [] ∧ σ.next < σ2.next := by
  have hsz : (enc x).length = k := hE.len x
  have hS1 : Same σ (newCells σ e (enc x)).2 [] := .newCells _ _ _ _
  have h1 := h.same hS1 nofun
  obtain ⟨v', σ2, p1, p2, p3, p4⟩ := append_spec hE h1 [x] (by simpa using hl)
  have hf : firstCells' k 1 (newCells σ e (enc x)).2 (.slice (some ⟨σ.next, 0, none⟩) 1 1) = some (enc x) := by
    show ldCells (newCells σ e (enc x)).2 σ.next 0 (1 * k) = _
    rw [Nat.one_mul, ← hsz]
    exact ldCells_newCells
  simp only [List.length_singleton, List.flatMap_cons, List.flatMap_nil, List.append_nil] at p1
  have hn2 := p3.next
  rw [next_newCells] at hn2
  refine ⟨_, v', σ2, buildSlice_of (cs := enc x) hu he (Nat.ble_eq_true_of_le (by rw [Nat.one_mul]; exact hk)) ?_, ?_, p2, (hS1.app p3).old fun b hb => by simp only [List.nil_append] at hb; exact .inl hb, fun b hb => ?_, hS1, by omega⟩
  · simp [fill', zerosN, hx, hsz, hz, Nat.ble_eq_true_of_le (Nat.le_refl k), List.drop_of_length_le (show z.length ≤ k from Nat.le_of_eq hz)]
  · rw [append_eq ht hu he hf]; exact p1
  · rcases p4 b hb with q | q
    · exact .inl q
    · rw [next_newCells] at q; exact .inr (by omega)
end
/-- A variable made and filled. -/
theorem newVar (σ : AHeap) (T : TypeId) (zs vs : List Value) (hl : vs.length = zs.length) (hs : ∀ v ∈ vs, single v = true) :
    ∃ σ1 σ2, (newCells σ T zs).2 = σ1 ∧ stCells σ1 σ.next 0 vs = some σ2 ∧ Same σ σ2 [] ∧ VarAt σ2 σ.next vs ∧ σ2.next = σ.next + 1 ∧ Same σ σ1 [] := by
  obtain ⟨σ2, t2, hv2, hS2, hn2⟩ := (VarAt.new σ T zs false).store hl hs
  have hS1 : Same σ (newCells σ T zs).2 [] := .newCells _ _ _ _
  exact ⟨_, σ2, rfl, t2, (hS1.app hS2).old fun b hb => by simp at hb; exact .inr (by omega), hv2, by rw [hn2, next_newCells], hS1⟩
theorem oneVar (σ : AHeap) (T : TypeId) (zs : List Value) (g : Bool) : ∃ σ1, (newCells σ T zs g).2 = σ1 ∧ Same σ σ1 [] ∧ VarAt σ1 σ.next zs ∧ σ1.next = σ.next + 1 := ⟨_, rfl, .newCells _ _ _ _, .new _ _ _ _, rfl⟩
end Go.AE
namespace Go.AE
variable {P : Program}
section
variable {α : Type} {k : Nat} {enc : α → List Value}
theorem ArrAt.drop {σ : AHeap} {b : Nat} {e : TypeId} {g : Bool} {o cap : Nat} {A : List α} (h : ArrAt σ b e g k enc o A cap) {j : Nat} (hj : j ≤ cap) : ArrAt σ b e g k enc (o + j * k) (A.drop j) (cap - j) := by
  obtain ⟨n, c, h1, h2, h3⟩ := h
  refine ⟨n, c, h1, fun i x hi q v hq => ?_, fun i hi => ?_⟩
  · rw [List.getElem?_drop] at hi
    have := h2 (j + i) x hi q v hq
    rwa [show o + (j + i) * k + q = o + j * k + i * k + q by rw [Nat.add_mul]; omega] at this
  · have hle : j * k + i < cap * k := by
      have e : cap * k = j * k + (cap - j) * k := by rw [← Nat.add_mul]; congr 1; omega
      omega
    have := h3 (j * k + i) hle
    rwa [← Nat.add_assoc] at this
end
end Go.AE
namespace Go.AE
variable {P : Program} {call : CallF}
theorem RetAt_mkg {ops : List Oper} {d : Option Tmp} {op : Op} {ty : TypeId} {pos : String} {af : Array Edge} {g : Nat × Bool} {fr f2 f3 : AFr} {s σu σ' fin : AHeap} {v v2 v3 : Value} :
    RetAt P call ops (some ⟨d, op, ty, pos, af, some g⟩) (some (fr, s, v)) (some (f2, σu, v2)) (some (f3, σ', v3)) fin = (wanted' ops fr ⟨d, op, ty, pos, af, some g⟩ = true → retells P call ⟨d, op, ty, pos, af, some g⟩ fr v σu = true ∧ retells P call ⟨d, op, ty, pos, af, some g⟩ fr v σ' = true) := rfl
theorem RetAt_lastg {ops : List Oper} {d : Option Tmp} {op : Op} {ty : TypeId} {pos : String} {af : Array Edge} {g : Nat × Bool} {fr f2 : AFr} {s σu fin : AHeap} {v v2 : Value} :
    RetAt P call ops (some ⟨d, op, ty, pos, af, some g⟩) (some (fr, s, v)) (some (f2, σu, v2)) none fin = (wanted' ops fr ⟨d, op, ty, pos, af, some g⟩ = true → retells P call ⟨d, op, ty, pos, af, some g⟩ fr v σu = true ∧ retells P call ⟨d, op, ty, pos, af, some g⟩ fr v fin = true) := rfl
theorem eq_bool {t d : Nat} {a b : Bool} (h : P.underlying t = some .bool) : pureP P (Op.equalIn (d + 1) t (.bool a) (.bool b)) = some (decide (a = b)) := by
  simp only [Op.equalIn, pureP_bind, pureP_under h, Option.bind_some]
  cases a <;> cases b <;> rfl
theorem eqV_bool {t : Nat} {a b : Bool} (h : P.underlying t = some .bool) : eqV P t (.bool a) (.bool b) = some (decide (a = b)) := by
  rw [← eq_bool (P := P) (d := 9999) h]
  simp [eqV, plain, plainF]
  rfl
theorem bin_bneq {t : Nat} {x y : Operand} {a b : Bool} (h : P.underlying t = some .bool) : bin P .neq t x y (.bool a) (.bool b) = some (.bool (!decide (a = b))) := by
  simp [bin, isEq, eqV_bool h]
end Go.AE
namespace Go.AE
variable {P : Program}
theorem conv_int {s d : Nat} {k k' kk : IntKind} {a : Int} {σ : AHeap} (hs : P.underlying s = some (.int k)) (hd : P.underlying d = some (.int k')) : conv P s d (.int kk a) σ = some (.int k' (k'.wrap a), σ) := by
  have h : pureP P (Go.convert s d (.int kk a)) = some (.int k' (k'.wrap a)) := by
    simp only [Go.convert, pureP_bind, pureP_under hs, pureP_under hd, Option.bind_some]
    rfl
  simp only [conv, hs, hd, h, atomic, atom, Option.map_some]
end Go.AE
namespace Go.AE
/-- A run cut where it goes on. -/
theorem W_cut {x : Option (AExit × AFr × AHeap)} {Q : AExit × AFr × AHeap → Prop} (R : AFr → AHeap → Prop) (h1 : W x fun r => ∃ fr σ, r = (.normal, fr, σ) ∧ R fr σ) (h2 : ∀ fr σ, R fr σ → Q (.normal, fr, σ)) : W x Q :=
  h1.mono fun r ⟨fr, σ, e, h⟩ => e ▸ h2 fr σ h
end Go.AE
end
/- Symbolic runs of a drawn region in which one row is made beside a call and stored to at once. -/
section
set_option linter.all false
namespace Go.AE
variable {P : Program} {call : CallF} {n : Nat}

theorem aop_still {o : Oper} {fr : AFr} {σ σ' : AHeap} {v : Value} (hna : acts P o = false) (h : aop P call o fr σ = some (v, σ')) : σ' = σ := by
  unfold acts at hna
  cases hc : clsOf P o.op with
  | acts => rw [hc] at hna; cases hna
  | pure => exact (aop_pure hc h).1
  | reads => exact aop_reads hc h
theorem fl_of_tr {ops : List Oper} {fls : List Nat} {base : Nat} {rest : List Oper} : ∀ (l : List Oper) (i : Nat) (fr : AFr) (σ : AHeap) (tr : List (AFr × AHeap × Value)) (fr' : AFr) (σ' : AHeap) (tr2 : List (AFr × AHeap × Value)) (pl2 : List (List Fl)) (r : List Fl × AFr × AHeap),
    (∀ j, i ≤ j → j < i + l.length → fls.contains j = false) → runTr P call ops l fr σ = some (tr, fr', σ') → runFl P call ops fls base rest (i + l.length) [] fr' σ' = some (tr2, pl2, r) → ∃ pl, runFl P call ops fls base (l ++ rest) i [] fr σ = some (tr ++ tr2, pl, r)
  | [], i, fr, σ, tr, fr', σ', tr2, pl2, r, _, h1, h2 => by
    simp only [runTr, Option.some.injEq, Prod.mk.injEq] at h1
    obtain ⟨rfl, rfl, rfl⟩ := h1
    exact ⟨pl2, by simpa using h2⟩
  | o :: l, i, fr, σ, tr, fr', σ', tr2, pl2, r, hf, h1, h2 => by
    have hi := hf i (Nat.le_refl _) (by simp)
    rw [runTr] at h1
    have hlen : i + (o :: l).length = i + 1 + l.length := by simp; omega
    rw [hlen] at h2
    cases hw : wanted' ops fr o with
    | false =>
      simp only [hw] at h1
      cases hr : runTr P call ops l (fr.put o.dst undef) σ with
      | none => simp [hr] at h1
      | some q =>
        obtain ⟨t, f, s⟩ := q
        simp only [hr, Option.some.injEq, Prod.mk.injEq] at h1
        obtain ⟨rfl, rfl, rfl⟩ := h1
        obtain ⟨pl, hp⟩ := fl_of_tr l (i + 1) _ _ _ _ _ _ _ _ (fun j a b => hf j (by omega) (by simp; omega)) hr h2
        refine ⟨[] :: pl, ?_⟩
        obtain ⟨ra, rb, rc⟩ := r
        simp only [List.cons_append, runFl, stepFl, hw, hp]
    | true =>
      simp only [hw] at h1
      cases ha : aop P call o fr σ with
      | none => simp [ha] at h1
      | some q =>
        obtain ⟨v, σ1⟩ := q
        simp only [ha] at h1
        cases hr : runTr P call ops l (fr.put o.dst v) σ1 with
        | none => simp [hr] at h1
        | some q =>
          obtain ⟨t, f, s⟩ := q
          simp only [hr, Option.some.injEq, Prod.mk.injEq] at h1
          obtain ⟨rfl, rfl, rfl⟩ := h1
          obtain ⟨pl, hp⟩ := fl_of_tr l (i + 1) _ _ _ _ _ _ _ _ (fun j a b => hf j (by omega) (by simp; omega)) hr h2
          refine ⟨[] :: pl, ?_⟩
          obtain ⟨ra, rb, rc⟩ := r
          cases hac : acts P o with
          | true => simp only [List.cons_append, runFl, stepFl, hw, hi, hac, List.filter_nil, landAll, ha, hp]
          | false =>
            have := aop_still hac ha
            subst this
            simp only [List.cons_append, runFl, stepFl, hw, hi, hac, ha, hp]
def KFl (P : Program) (call : CallF) (ops : List Oper) (ps : List (Nat × Nat)) (b : Nat) (d : Option Tmp) (ob : AObj) (st : Oper) (post : List Oper) (Q : AExit × AFr × AHeap → Prop) : List (AFr × AHeap × Value) × AFr × AHeap → Prop := fun r =>
  W (aop P call st (r.2.1.put d (ptr b 0)) (r.2.2.set b ob)) fun s => W (runTr P call ops post ((r.2.1.put d (ptr b 0)).put st.dst s.1) s.2) fun x => KRe P call ops ps Q (r.1 ++ (r.2.1, r.2.2, ptr b 0) :: (r.2.1.put d (ptr b 0), r.2.2, s.1) :: x.1, x.2)
theorem KFl_mk {ops : List Oper} {ps : List (Nat × Nat)} {b : Nat} {d : Option Tmp} {ob : AObj} {st : Oper} {post : List Oper} {Q : AExit × AFr × AHeap → Prop} {tr : List (AFr × AHeap × Value)} {fr : AFr} {σ : AHeap} :
    KFl P call ops ps b d ob st post Q (tr, fr, σ) = W (aop P call st (fr.put d (ptr b 0)) (σ.set b ob)) fun s => W (runTr P call ops post ((fr.put d (ptr b 0)).put st.dst s.1) s.2) fun x => KRe P call ops ps Q (tr ++ (fr, σ, ptr b 0) :: (fr.put d (ptr b 0), σ, s.1) :: x.1, x.2) := rfl
/-- Whether what is taken for a region with one floating row is so. -/
def floatOk (P : Program) (ops : List Oper) (u : Nat) (e : TypeId) (ps : List (Nat × Nat)) : Bool :=
  !(drawOk P [] ops) && drawOk P [u] ops && (floats P ops == [u]) && (unruly P ops == ps) && (match ops[u]? with | some o => (match o.op with | .alloc e' => e' == e | _ => false) && o.guard.isNone | none => false) && (match ops[u + 1]? with | some st => st.guard.isNone && acts P st | none => false) && waitsFor ops (u + 1) u
theorem W_float {id : Nat} {ops : Array Oper} {ps : List (Nat × Nat)} {u : Nat} {e : TypeId} {z : Value} {fr : AFr} {σ : AHeap} {Q} {d : Option Tmp} {st : Oper} {pre post : List Oper} (hz : zeroOf P e = some z) (hok : floatOk P ops.toList u e ps = true)
    (hd : (ops.toList[u]?.bind (·.dst)) = d) (hst : ops.toList[u + 1]? = some st) (hpre : ops.toList.take u = pre) (hpost : ops.toList.drop (u + 2) = post) {N : Nat} (hN : ops.toList.length = N)
    (h : W (runTr P call ops.toList pre fr ⟨σ.next + N, σ.m⟩) (KFl P call ops.toList ps (σ.next + u) d (Fl.obj ⟨u, e, z.cells.toList⟩) st post Q)) : W (exec P call n (.region id ops true) fr σ) Q := by
  simp only [floatOk, Bool.and_eq_true, Bool.not_eq_true', beq_iff_eq] at hok
  obtain ⟨⟨⟨⟨⟨⟨h1, h2⟩, h3⟩, h4⟩, h5⟩, h6⟩, h7⟩ := hok
  obtain ⟨⟨tr1, fr1, σ1⟩, e1, k1⟩ := h
  rw [KFl_mk] at k1
  obtain ⟨⟨v2, σ2⟩, e2, k2⟩ := k1
  obtain ⟨⟨tr2, fr', σ'⟩, e3, k3⟩ := k2
  rw [KRe_mk] at k3
  rw [hst] at h6
  simp only [Bool.and_eq_true, Option.isNone_iff_eq_none] at h6
  cases ho : ops.toList[u]? with
  | none => rw [ho] at h5; simp at h5
  | some o =>
    rw [ho] at h5 hd
    simp only [Bool.and_eq_true, Option.isNone_iff_eq_none] at h5
    simp only [Option.bind_some] at hd
    have hul := (List.getElem?_eq_some_iff.1 ho)
    have hsl := (List.getElem?_eq_some_iff.1 hst)
    have hops : ops.toList = pre ++ (o :: st :: post) := by
      rw [← hpre, ← hpost]
      conv => lhs; rw [← List.take_append_drop u ops.toList]
      rw [List.drop_eq_getElem_cons hul.1, hul.2, List.drop_eq_getElem_cons hsl.1, hsl.2]
    have hpl : pre.length = u := by have := hul.1; rw [← hpre, List.length_take]; omega
    have hop : ∃ e', o.op = .alloc e' ∧ e' = e := by
      obtain ⟨dst, op, ty, pos, after, guard⟩ := o
      cases op <;> simp at h5
      exact ⟨_, rfl, h5.1⟩
    obtain ⟨e', hop, rfl⟩ := hop
    -- the tail
    have hnc : ∀ j, u + 2 ≤ j → j < u + 2 + post.length → [u].contains j = false := fun j a b => by simp; omega
    have tl : runFl P call ops.toList [u] σ.next [] (u + 2 + post.length) [] fr' σ' = some ([], [], [], fr', σ') := rfl
    obtain ⟨pl3, hp3⟩ := fl_of_tr post (u + 2) _ _ _ _ _ _ _ _ hnc e3 tl
    rw [List.append_nil, List.append_nil] at hp3
    have s1 : runFl P call ops.toList [u] σ.next (o :: st :: post) (0 + pre.length) [] fr1 σ1 = some ((fr1, σ1, ptr (σ.next + u) 0) :: (fr1.put d (ptr (σ.next + u) 0), σ1, v2) :: tr2, [] :: [⟨u, e', z.cells.toList⟩] :: pl3, [], fr', σ') := by
      have w1 : wanted' ops.toList fr1 o = true := by unfold wanted'; rw [h5.2]
      have w2 : ∀ f, wanted' ops.toList f st = true := fun f => by unfold wanted'; rw [h6.1]
      have c1 : [u].contains u = true := by simp
      have c2 : [u].contains (u + 1) = false := by simp
      have fl : flOf P o fr1 = some (e', z.cells.toList, none) := by unfold flOf; rw [hop]; simp only [hz]
      rw [Nat.zero_add, hpl]
      simp only [runFl, stepFl, w1, w2, c1, c2, fl, h6.2, flV, hd, List.filter_cons, List.filter_nil, h7, if_true, landAll, e2, Bool.not_true, Bool.false_eq_true, if_false, hp3]
    obtain ⟨pl, hall⟩ := fl_of_tr pre 0 _ _ _ _ _ _ _ _ (fun j a b => by have hb : j < u := (by omega); simp; omega) e1 s1
    rw [← hops] at hall
    refine ⟨(.normal, fr', σ'), ?_, k3.2⟩
    simp only [exec, region', h1, h3, regionF, h2, hN, hall, h4, k3.1, landAll]
end Go.AE
end
/- Arrays of words compared and read, bits, letters out of bytes. -/
section
set_option linter.all false
namespace Go.AE
variable {P : Program}
theorem pureP_size {t n : Nat} (h : sizeOf' P t = some n) : pureP P (sizeOf t) = some n := by
  unfold sizeOf' at h
  cases hi : P.info? t with
  | none => simp [hi] at h
  | some i =>
    simp [hi] at h
    have e : pureP P (typeInfo t) = some i := by
      show pureP P (match P.info? t with | some i => pure i | none => stuck "no such type") = _
      rw [hi]; rfl
    unfold sizeOf
    rw [pureP_bind, e]
    exact congrArg some h
theorem eq_arr {t e len d : Nat} {α : Type} [DecidableEq α] {f : α → Value} {A B : List α} (h : P.underlying t = some (.array len e)) (hs : pureP P (sizeOf e) = some 1) (hA : A.length = len) (hB : B.length = len) (hi : ∀ a b, pureP P (Op.equalIn d e (f a) (f b)) = some (decide (a = b))) (hp : isAgg' P e = some false) :
    pureP P (Op.equalIn (d + 1) t (.agg (A.map f).toArray) (.agg (B.map f).toArray)) = some (decide (A = B)) := by
  simp only [Op.equalIn, pureP_bind, pureP_under h, Option.bind_some, hs]
  simp
  rw [show decide (A = B) = decide (A.drop 0 = B.drop 0) from rfl]
  have hm : 0 + len = A.length := by omega
  have hAB : A.length = B.length := by omega
  clear h hA hB
  generalize (0 : Nat) = o at hm ⊢
  induction len generalizing o with
  | zero =>
    rw [List.drop_of_length_le (by omega), List.drop_of_length_le (by omega)]
    rfl
  | succ m ih =>
    have e1 : pureP P (part e (List.map f A).toArray o) = some (f (A[o]'(by omega))) := part_cell hp (by simp [List.getElem?_eq_getElem (show o < A.length by omega)])
    have e2 : pureP P (part e (List.map f B).toArray o) = some (f (B[o]'(by omega))) := part_cell hp (by simp [List.getElem?_eq_getElem (show o < B.length by omega)])
    have ih := ih (o + 1) (by omega)
    have hd : decide (A.drop o = B.drop o) = decide (A[o] = B[o] ∧ A.drop (o + 1) = B.drop (o + 1)) := by
      rw [List.drop_eq_getElem_cons (show o < A.length by omega), List.drop_eq_getElem_cons (show o < B.length by omega)]
      simp only [List.cons.injEq]
    rw [hd]
    by_cases q : A[o] = B[o]
    · simp [List.range'_succ, pureP_bind, e1, e2, hi, q, pureP_pure]
      simpa [pureP_bind] using ih
    · simp [List.range'_succ, pureP_bind, e1, e2, hi, q, pureP_pure]
theorem eqV_arr {t e len : Nat} {k : IntKind} {A B : List Int} (h : P.underlying t = some (.array len e)) (hs : sizeOf' P e = some 1) (hp : isAgg' P e = some false) {kk : IntKind} (hu : P.underlying e = some (.int kk)) (hA : A.length = len) (hB : B.length = len) :
    eqV P t (.agg (A.map (Value.int k)).toArray) (.agg (B.map (Value.int k)).toArray) = some (decide (A = B)) := by
  have hx : ∀ A : List Int, plain (.agg (A.map (Value.int k)).toArray) = true := fun A => by
    simp [plain, plainF]
  rw [← eq_arr (P := P) (d := 9999) (f := Value.int k) (A := A) (B := B) h (pureP_size hs) hA hB (fun a b => eq_int hu) hp]
  simp only [eqV, hx]
  rfl
theorem indexVal_arr {t e len : Nat} {k : IntKind} {cs : Array Value} {i : Nat} (h : P.underlying t = some (.array len e)) (hs : sizeOf' P e = some 1) (hp : isAgg' P e = some false) (hi : i < len) : indexVal P t (.agg cs) (.int k (i : Int)) = cs[i]? := by
  simp only [indexVal, h, hs]
  have : idx (.int k (i : Int)) len = some i := by unfold idx natOf; simp [hi]
  rw [this]
  simp [part', hp]
theorem atomic_int {k : IntKind} {a : Int} : atomic (some (.int k a)) = some (.int k a) := rfl
theorem bin_shl {t : TypeId} {x y : Operand} {k yk : IntKind} {a b : Int} (h : 0 ≤ b) : bin P .shl t x y (.int k a) (.int yk b) = some (.int k (k.wrap (a * 2 ^ (min b.toNat k.bits)))) := by
  simp [bin, Go.binOp, Op.shift, show ¬ b < 0 by omega, pureP_pure, atomic_int]
theorem bin_shr {t : TypeId} {x y : Operand} {k yk : IntKind} {a b : Int} (h : 0 ≤ b) : bin P .shr t x y (.int k a) (.int yk b) = some (.int k (a.fdiv (2 ^ (min b.toNat k.bits)))) := by
  simp [bin, Go.binOp, Op.shift, show ¬ b < 0 by omega, pureP_pure, atomic_int]
theorem wrapU {k : IntKind} (hs : k.signed = false) (a : Nat) : k.wrap (a : Int) = ((a % 2 ^ k.bits : Nat) : Int) := by
  unfold IntKind.wrap
  simp [hs]
theorem wrapU64 {a : Nat} (h : a < 18446744073709551616) : IntKind.u64.wrap (a : Int) = (a : Int) := by
  rw [wrapU rfl]
  exact congrArg _ (Nat.mod_eq_of_lt (b := 2 ^ 64) h)
theorem wrapU8 {a : Nat} : IntKind.u8.wrap (a : Int) = ((a % 256 : Nat) : Int) := wrapU rfl a
theorem bin_and64 {t : TypeId} {x y : Operand} {a b : Nat} (ha : a < 18446744073709551616) (hb : b < 18446744073709551616) : bin P .and t x y (.int .u64 (a : Int)) (.int .u64 (b : Int)) = some (.int .u64 ((a &&& b : Nat) : Int)) := by
  have h64 : IntKind.u64.bits = 64 := rfl
  have e : (BitVec.ofInt IntKind.u64.bits (a : Int) &&& BitVec.ofInt IntKind.u64.bits (b : Int)).toNat = a &&& b := by
    simp only [h64, BitVec.toNat_and, BitVec.toNat_ofInt]
    have e1 : ((a : Int) % (2 ^ 64 : Nat)).toNat = a := by omega
    have e2 : ((b : Int) % (2 ^ 64 : Nat)).toNat = b := by omega
    rw [e1, e2]
  have lt : a &&& b < 18446744073709551616 := Nat.lt_of_le_of_lt Nat.and_le_left ha
  simp only [bin, Go.binOp, Op.intBits, ne_eq, not_true, if_false, pureP_pure, atomic_int, e]
  rw [wrapU64 lt]
theorem bin_or64 {t : TypeId} {x y : Operand} {a b : Nat} (ha : a < 18446744073709551616) (hb : b < 18446744073709551616) : bin P .or t x y (.int .u64 (a : Int)) (.int .u64 (b : Int)) = some (.int .u64 ((a ||| b : Nat) : Int)) := by
  have h64 : IntKind.u64.bits = 64 := rfl
  have e : (BitVec.ofInt IntKind.u64.bits (a : Int) ||| BitVec.ofInt IntKind.u64.bits (b : Int)).toNat = a ||| b := by
    simp only [h64, BitVec.toNat_or, BitVec.toNat_ofInt]
    have e1 : ((a : Int) % (2 ^ 64 : Nat)).toNat = a := by omega
    have e2 : ((b : Int) % (2 ^ 64 : Nat)).toNat = b := by omega
    rw [e1, e2]
  have lt : a ||| b < 18446744073709551616 := Nat.or_lt_two_pow (n := 64) ha hb
  simp only [bin, Go.binOp, Op.intBits, ne_eq, not_true, if_false, pureP_pure, atomic_int, e]
  rw [wrapU64 lt]
theorem or_byte {a b : Nat} (hb : b < 256) : (a * 256) ||| b = a * 256 + b := by
  have := Nat.two_pow_add_eq_or_of_lt (i := 8) (b := b) (by omega) a
  rw [show 2 ^ 8 * a = a * 256 by omega] at this
  exact this.symm
theorem shl8 {t : TypeId} {x y : Operand} {yk : IntKind} {a : Nat} (h : a < 72057594037927936) : bin P .shl t x y (.int .u64 (a : Int)) (.int yk 8) = some (.int .u64 ((a * 256 : Nat) : Int)) := by
  rw [bin_shl (by omega)]
  have : (a : Int) * 2 ^ (min (8 : Int).toNat IntKind.u64.bits) = ((a * 256 : Nat) : Int) := by
    have : min (8 : Int).toNat IntKind.u64.bits = 8 := by decide
    rw [this]; omega
  rw [this, wrapU64 (by omega)]
theorem shr_nat {t : TypeId} {x y : Operand} {k yk : IntKind} {a s : Nat} (h : s < 64) (hk : 64 ≤ k.bits) : bin P .shr t x y (.int k (a : Int)) (.int yk (s : Int)) = some (.int k ((a / 2 ^ s : Nat) : Int)) := by
  rw [bin_shr (by omega)]
  have : min (s : Int).toNat k.bits = s := by rw [Int.toNat_natCast]; omega
  rw [this, Int.fdiv_eq_ediv_of_nonneg _ (by have : (0 : Int) < 2 ^ s := Int.pow_pos (by omega); omega)]
  simp
end Go.AE
namespace Go.AE
variable {P : Program}
theorem and1_8 {t : TypeId} {x y : Operand} {a : Nat} (ha : a < 256) : bin P .and t x y (.int .u8 (a : Int)) (.int .u8 1) = some (.int .u8 ((a % 2 : Nat) : Int)) := by
  have h8 : IntKind.u8.bits = 8 := rfl
  have e : (BitVec.ofInt IntKind.u8.bits (a : Int) &&& BitVec.ofInt IntKind.u8.bits 1).toNat = a % 2 := by
    simp only [h8, BitVec.toNat_and, BitVec.toNat_ofInt]
    have e1 : ((a : Int) % (2 ^ 8 : Nat)).toNat = a := by omega
    have e2 : ((1 : Int) % (2 ^ 8 : Nat)).toNat = 1 := by omega
    rw [e1, e2, Nat.and_one_is_mod]
  simp only [bin, Go.binOp, Op.intBits, ne_eq, not_true, if_false, pureP_pure, atomic_int, e]
  rw [wrapU8, show a % 2 % 256 = a % 2 by omega]
theorem shr8_64 {t : TypeId} {x y : Operand} {yk : IntKind} {a : Nat} : bin P .shr t x y (.int .i64 (a : Int)) (.int yk 8) = some (.int .i64 ((a / 256 : Nat) : Int)) := shr_nat (s := 8) (by omega) (by decide)
end Go.AE
namespace Go.AE
variable {P : Program} {call : CallF}
def s2apV (P : Program) (arr : TypeId) (v : Value) : Option Value := match P.underlying arr, v with
  | some (.array n _), .slice a len _ => match a with
    | some a => match a.spot with
      | none => match Nat.blt 0 n && n.ble len with
        | true => some (.pointer (some a))
        | false => none
      | some _ => none
    | none => none
  | _, _ => none
theorem aop_s2ap {d : Option Tmp} {ty : TypeId} {pos : String} {af : Array Edge} {g : Option (Nat × Bool)} {fr : AFr} {σ : AHeap} {arr : TypeId} {x : Operand} : aop P call ⟨d, .sliceToArrayPointer arr x, ty, pos, af, g⟩ fr σ = withH σ (s2apV P arr (fr.eval x)) := by
  simp only [aop, s2apV]
  cases P.underlying arr with
  | none => rfl
  | some u =>
    cases u <;> try rfl
    generalize fr.eval x = v
    cases v <;> try rfl
    rename_i a _ _
    cases a with
    | none => rfl
    | some a =>
      simp only
      cases a.spot with
      | some _ => rfl
      | none =>
        simp only
        rename_i n2 _ l2 _
        cases hb : (Nat.blt 0 n2 && n2.ble l2) <;> simp [withH]
/-- The byte of letters at a place, as a number. -/
def kb (k : ByteArray) (i : Nat) : Nat := (k.data.toList.getD i 0).toNat
theorem kb_lt {k : ByteArray} {i : Nat} : kb k i < 256 := UInt8.toNat_lt _
theorem index_str {t : TypeId} {kk : IntKind} {k : ByteArray} {i : Nat} (h : P.underlying t = some .string) (hi : i < k.size) : indexVal P t (.string k) (.int kk (i : Int)) = some (.int .u8 (kb k i : Int)) := by
  have hl : i < k.data.toList.length := hi
  simp only [indexVal, h]
  have : idx (.int kk (i : Int)) k.size = some i := by unfold idx natOf; simp [hi]
  rw [this]
  simp only [Option.bind_some, kb, List.getD, List.getElem?_eq_getElem hl, Option.map_some, Option.getD_some]
theorem slice_str2 {t : TypeId} {k1 k2 : IntKind} {s : ByteArray} {l h : Nat} {σ : AHeap} (ht : P.underlying t = some .string) (hl : l ≤ h) (hh : h ≤ s.size) : sliceOp P t (.string s) (some (.int k1 (l : Int))) (some (.int k2 (h : Int))) none σ = some (.string ⟨((s.data.toList.take h).drop l).toArray⟩) := by
  have e1 : ubound (.int k2 (h : Int)) s.size = some h := by unfold ubound natOf; simp [Nat.ble_eq_true_of_le hh]
  have e2 : ubound (.int k1 (l : Int)) h = some l := by unfold ubound natOf; simp [Nat.ble_eq_true_of_le hl]
  simp only [sliceOp, ht, bounds, e1, lowB, e2]
  try rfl
theorem slice_arr {t e n : Nat} {b : Nat} {σ : AHeap} (ht : P.underlying t = some (.array n e)) (hs : sizeOf' P e = some 1) (hn : 0 < n) : sliceOp P t (.pointer (some ⟨b, 0, none⟩)) none none none σ = some (.slice (some ⟨b, 0, none⟩) n n) := by
  have hb : n.beq 0 = false := Bool.eq_false_iff.2 fun h => by have := Nat.eq_of_beq_eq_true h; omega
  simp only [sliceOp, ht, hs, bounds, lowB, sliceArr, hb, Nat.sub_zero]
  rfl
theorem bytes_of : ∀ L : List Nat, bytesOf (L.map fun b : Nat => Value.int .u8 (b : Int)) = some (L.map UInt8.ofNat)
  | [] => rfl
  | b :: L => by
    have := bytes_of L
    simp only [List.map_cons, bytesOf, this, Option.map_some]
    rfl
theorem conv_bytes {s d e : TypeId} {b n c : Nat} {L : List Nat} {σ : AHeap} (hs : P.underlying s = some (.slice e)) (hd : P.underlying d = some .string) (he : P.underlying e = some (.int .u8)) (hl : ldCells σ b 0 (n * 1) = some (L.map fun b : Nat => Value.int .u8 (b : Int))) :
    conv P s d (.slice (some ⟨b, 0, none⟩) n c) σ = some (.string ⟨(L.map UInt8.ofNat).toArray⟩, σ) := by
  simp only [conv, hs, hd, he, firstCells', hl, bytes_of]
theorem conv_str {s d e : TypeId} {u : ByteArray} {σ : AHeap} (hs : P.underlying s = some .string) (hd : P.underlying d = some (.slice e)) (he : P.underlying e = some (.int .u8)) (hz : sizeOf' P e = some 1) :
    conv P s d (.string u) σ = some (.slice (some ⟨σ.next, 0, none⟩) u.size u.size, (newCells σ e (u.data.toList.map fun b => Value.int .u8 b.toNat) true).2) := by
  simp only [conv, hs, hd, he, hz]
  rfl
theorem shl8_64 {t : TypeId} {x y : Operand} {yk : IntKind} {a : Nat} (h : a < 256) : bin P .shl t x y (.int .i64 (a : Int)) (.int yk 8) = some (.int .i64 ((a * 256 : Nat) : Int)) := by
  rw [bin_shl (by omega)]
  have : (a : Int) * 2 ^ (min (8 : Int).toNat IntKind.i64.bits) = ((a * 256 : Nat) : Int) := by
    have : min (8 : Int).toNat IntKind.i64.bits = 8 := by decide
    rw [this]; omega
  rw [this, wrap64 (by omega) (by omega)]
theorem bin_ori64 {t : TypeId} {x y : Operand} {a b : Nat} (ha : a < 4611686018427387904) (hb : b < 4611686018427387904) : bin P .or t x y (.int .i64 (a : Int)) (.int .i64 (b : Int)) = some (.int .i64 ((a ||| b : Nat) : Int)) := by
  have h64 : IntKind.i64.bits = 64 := rfl
  have e : (BitVec.ofInt IntKind.i64.bits (a : Int) ||| BitVec.ofInt IntKind.i64.bits (b : Int)).toNat = a ||| b := by
    simp only [h64, BitVec.toNat_or, BitVec.toNat_ofInt]
    have e1 : ((a : Int) % (2 ^ 64 : Nat)).toNat = a := by omega
    have e2 : ((b : Int) % (2 ^ 64 : Nat)).toNat = b := by omega
    rw [e1, e2]
  have lt : a ||| b < 4611686018427387904 := Nat.or_lt_two_pow (n := 62) ha hb
  simp only [bin, Go.binOp, Op.intBits, ne_eq, not_true, if_false, pureP_pure, atomic_int, e]
  rw [wrap64 (by omega) (by omega)]
/-- Two variables' cells appended: a fresh row. -/
theorem append_vars {t u e : TypeId} {z : List Value} (ht : P.underlying t = some (.slice e)) (hu : P.underlying u = some (.slice e)) (he : elemOk P e = some (1, z)) {σ : AHeap} {b b2 : Nat} {xs ys : List Value} {n : Nat} {c : Tr Value} {e' : TypeId} (hg : σ.get b = some (.cells n c e' false false)) (hx : VarAt σ b xs) (hy : VarAt σ b2 ys) (h0 : 0 < ys.length) (hl : xs.length + ys.length ≤ 1048576) (hs : ∀ v ∈ ys, single v = true) :
    builtin' P .append #[t, u] [.slice (some ⟨b, 0, none⟩) xs.length xs.length, .slice (some ⟨b2, 0, none⟩) ys.length ys.length] σ = some (.slice (some ⟨σ.next, 0, none⟩) (xs.length + ys.length) (xs.length + ys.length), (newCells σ e (xs ++ ys) true).2) := by
  have hf : firstCells' 1 ys.length σ (.slice (some ⟨b2, 0, none⟩) ys.length ys.length) = some ys := by
    show ldCells σ b2 0 (ys.length * 1) = _
    rw [Nat.mul_one]; exact hy.ldCells
  have hf2 : firstCells' 1 xs.length σ (.slice (some ⟨b, 0, none⟩) xs.length xs.length) = some xs := by
    show ldCells σ b 0 (xs.length * 1) = _
    rw [Nat.mul_one]; exact hx.ldCells
  rw [append_eq ht hu he hf]
  have c0 : (xs.length + ys.length).ble xs.length = false := Bool.eq_false_iff.2 fun h => by have := Nat.le_of_ble_eq_true h; omega
  have c1 : (xs.length + ys.length).ble 1048576 = true := Nat.ble_eq_true_of_le hl
  have c2 : xs.length.beq (xs.length * 1) = true := by rw [Nat.mul_one, Nat.beq_refl]
  have c3 : ys.length.beq (ys.length * 1) = true := by rw [Nat.mul_one, Nat.beq_refl]
  have c4 : ys.all single = true := List.all_eq_true.2 hs
  simp only [appendCells, c0, hf2, c1, c2, c3, c4, Bool.and_self, hg]
  rfl
end Go.AE
namespace Go.AE
variable {P : Program}
theorem rem8 {t : TypeId} {x y : Operand} {k : IntKind} {a : Nat} : bin P .rem t x y (.int k (a : Int)) (.int k 8) = some (.int k ((a % 8 : Nat) : Int)) := by
  rw [bin_rem (by decide)]
  have : (a : Int).tmod 8 = ((a % 8 : Nat) : Int) := by rw [Int.tmod_eq_emod_of_nonneg (by omega)]; omega
  rw [this]
theorem rem4 {t : TypeId} {x y : Operand} {k : IntKind} {a : Nat} : bin P .rem t x y (.int k (a : Int)) (.int k 4) = some (.int k ((a % 4 : Nat) : Int)) := by
  rw [bin_rem (by decide)]
  have : (a : Int).tmod 4 = ((a % 4 : Nat) : Int) := by rw [Int.tmod_eq_emod_of_nonneg (by omega)]; omega
  rw [this]
end Go.AE
namespace Go.AE
def wantB (v : Value) (w : Bool) : Bool := match v with
  | .bool b => b == w
  | _ => false
theorem wanted_g {P : Program} {all : List Oper} {d : Option Tmp} {op : Op} {ty : TypeId} {pos : String} {af : Array Edge} {j : Nat} {want : Bool} {fr : AFr} : wanted' all fr ⟨d, op, ty, pos, af, some (j, want)⟩ = wantB (Gd all j fr) want := by
  show (match yields all fr j with | some b => b == want | none => false) = _
  unfold yields Gd wantB
  cases all[j]? with
  | none => rfl
  | some o =>
    cases hd : o.dst with
    | none => simp only [hd, undef]
    | some dd => simp only [hd]; cases fr.at_ dd <;> rfl
theorem wantB_tt : wantB (.bool true) true = true := rfl
theorem wantB_ff : wantB (.bool false) false = true := rfl
theorem wantB_tf : wantB (.bool true) false = false := rfl
theorem wantB_ft : wantB (.bool false) true = false := rfl
theorem wantB_un {w : Bool} : wantB undef w = false := rfl
end Go.AE
end
/- Maps whose keys are other than letters: keys told by a function. -/
section
set_option linter.all false
namespace Go.AE
variable {P : Program} {α : Type} [DecidableEq α]
/-- How keys stand as values. -/
structure KeyK (P : Program) (kt : TypeId) (kf : α → Value) : Prop where
  ok : ∀ a, keyOk P kt (kf a) = true
  eq : ∀ a b, keyEq P kt false (kf a) (kf b) = some (decide (a = b))
  str : isStr P kt = false
  pl : ∀ a, (plain (kf a) && Instr.sameBits 10000 (kf a) (kf a)) = true
def lookG (M : List (α × Value)) (a : α) : Option Value := (M.find? fun p => decide (p.1 = a)).map (·.2)
theorem lookG_cons (p : α × Value) (M : List (α × Value)) (a : α) : lookG (p :: M) a = if p.1 = a then some p.2 else lookG M a := by
  unfold lookG
  by_cases h : p.1 = a <;> simp [List.find?_cons, h]
theorem lookG_snoc (M : List (α × Value)) (a b : α) (v : Value) (h : lookG M a = none) : lookG (M ++ [(a, v)]) b = if b = a then some v else lookG M b := by
  induction M with
  | nil =>
    by_cases hb : b = a
    · subst hb; simp [lookG]
    · have : ¬ a = b := fun e => hb e.symm
      simp [lookG, hb, this]
  | cons p M ih =>
    rw [lookG_cons] at h
    split at h
    · cases h
    · rename_i hp
      rw [List.cons_append, lookG_cons, ih h, lookG_cons]
      by_cases hb : b = a
      · subst hb; rw [if_neg hp, if_pos rfl, if_pos rfl]
      · rw [if_neg hb, if_neg hb]
/-- A map with such keys. -/
def MapK (kf : α → Value) (σ : AHeap) (m : Nat) (g : α → Option Value) : Prop := ∃ es cl, ∃ M : List (α × Value), σ.get m = some (.map es cl false) ∧ es.map (fun e => (e.key, e.val)) = (M.map fun p => (kf p.1, p.2)) ∧ ∀ a, lookG M a = g a
theorem MapK.same {kf : α → Value} {σ σ' : AHeap} {m : Nat} {g : α → Option Value} {F : List Nat} (h : MapK kf σ m g) (hs : Same σ σ' F) (hm : m < σ.next) (hF : m ∉ F) : MapK kf σ' m g := by
  obtain ⟨es, cl, M, h1, h2, h3⟩ := h
  exact ⟨es, cl, M, by rw [hs.get m hm hF]; exact h1, h2, h3⟩
theorem MapK.new (kf : α → Value) (σ : AHeap) : MapK kf (σ.new (.map [] 0 false)).2 σ.next (fun _ => none) := ⟨[], 0, [], by rw [AHeap.get_new, if_pos rfl], rfl, fun a => rfl⟩
theorem findKey_k {kt : TypeId} {kf : α → Value} (K : KeyK P kt kf) {a : α} : ∀ (es : List MapEntry) (M : List (α × Value)) (i : Nat), es.map (fun e => (e.key, e.val)) = (M.map fun p => (kf p.1, p.2)) →
    (lookG M a = none ∧ findKey' P kt false (kf a) es i = some none) ∨
    ∃ j e, findKey' P kt false (kf a) es i = some (some (i + j, e)) ∧ e.key = kf a ∧ lookG M a = some e.val ∧
      ∀ v, ∃ M' : List (α × Value), (es.modify j fun e => { e with key := kf a, val := v }).map (fun e => (e.key, e.val)) = (M'.map fun p => (kf p.1, p.2)) ∧ ∀ b, lookG M' b = if b = a then some v else lookG M b
  | [], M, i, h => by
    have : M = [] := by cases M with | nil => rfl | cons => simp at h
    subst this
    exact .inl ⟨rfl, rfl⟩
  | e :: es, [], i, h => by simp at h
  | e :: es, p :: M, i, h => by
    rw [List.map_cons, List.map_cons, List.cons.injEq] at h
    obtain ⟨he, hr⟩ := h
    have hk : e.key = kf p.1 := congrArg Prod.fst he
    have hv : e.val = p.2 := congrArg Prod.snd he
    rw [findKey', hk, lookG_cons, K.eq]
    by_cases q : a = p.1
    · right
      subst q
      refine ⟨0, e, by simp, hk, by simp [hv], fun v => ⟨(p.1, v) :: M, by rw [List.modify_zero_cons, List.map_cons, List.map_cons, hr], fun b => ?_⟩⟩
      rw [lookG_cons, lookG_cons]
      by_cases hb : b = p.1
      · subst hb; simp
      · have : ¬ p.1 = b := fun x => hb x.symm
        rw [if_neg this, if_neg hb, if_neg this]
    · have q' : ¬ p.1 = a := fun x => q x.symm
      simp only [decide_eq_false q, if_neg q']
      rcases findKey_k K es M (i + 1) hr with h | ⟨j, e', h1, h2, h3, h4⟩
      · exact .inl h
      · refine .inr ⟨j + 1, e', by rw [h1]; congr 3; omega, h2, h3, fun v => ?_⟩
        obtain ⟨M', m1, m2⟩ := h4 v
        refine ⟨p :: M', by rw [List.modify_succ_cons, List.map_cons, List.map_cons, m1, he], fun b => ?_⟩
        rw [lookG_cons, lookG_cons, m2]
        by_cases hb : b = a
        · subst hb; rw [if_neg q', if_pos rfl, if_pos rfl]
        · rw [if_neg hb, if_neg hb]
theorem MapK.look {t kt et : TypeId} {kf : α → Value} (K : KeyK P kt kf) (ht : P.underlying t = some (.map kt et)) {z : Value} (hz : zeroOf P et = some z) {σ : AHeap} {m : Nat} {g : α → Option Value} (h : MapK kf σ m g) (a : α) (ok : Bool) :
    lookup' P t (.map (some m)) (kf a) ok σ = some (if ok then .tuple #[(g a).getD z, .bool (g a).isSome] else (g a).getD z) := by
  obtain ⟨es, cl, M, h1, h2, h3⟩ := h
  unfold lookup'
  simp only [ht, K.ok, entriesOf, h1, K.str]
  rcases findKey_k K (a := a) es M 0 h2 with ⟨h4, h5⟩ | ⟨j, e, h5, _, h4, _⟩
  · rw [h3] at h4; simp [h4, h5, hz]
  · rw [h3] at h4; simp [h4, h5]
theorem MapK.put {t kt et : TypeId} {kf : α → Value} (K : KeyK P kt kf) (ht : P.underlying t = some (.map kt et)) {σ : AHeap} {m : Nat} {g : α → Option Value} (h : MapK kf σ m g) (a : α) (v : Value) :
    ∃ o, mapPut P t (.map (some m)) (kf a) v σ = some (σ.set m o) ∧ MapK kf (σ.set m o) m (fun b => if b = a then some v else g b) := by
  obtain ⟨es, cl, M, h1, h2, h3⟩ := h
  unfold mapPut findW
  simp only [ht, K.ok, h1, K.str]
  rcases findKey_k K (a := a) es M 0 h2 with ⟨h4, h5⟩ | ⟨j, e, h5, h6, h4, h7⟩
  · simp only [h5]
    refine ⟨_, rfl, _, _, M ++ [(a, v)], by rw [AHeap.get_set, if_pos rfl], by simp [h2], fun b => ?_⟩
    rw [lookG_snoc M a b v h4, h3]
  · obtain ⟨M', m1, m2⟩ := h7 v
    simp only [h5, h6, K.pl, Nat.zero_add]
    exact ⟨_, rfl, _, _, M', by rw [AHeap.get_set, if_pos rfl], m1, fun b => by rw [m2, h3]⟩
end Go.AE
namespace Go.AE
variable {P : Program}
theorem rem20 {t : TypeId} {x y : Operand} {k : IntKind} {a : Nat} : bin P .rem t x y (.int k (a : Int)) (.int k 20) = some (.int k ((a % 20 : Nat) : Int)) := by
  rw [bin_rem (by decide)]
  have : (a : Int).tmod 20 = ((a % 20 : Nat) : Int) := by rw [Int.tmod_eq_emod_of_nonneg (by omega)]; omega
  rw [this]
theorem rem3 {t : TypeId} {x y : Operand} {k : IntKind} {a : Nat} : bin P .rem t x y (.int k (a : Int)) (.int k 3) = some (.int k ((a % 3 : Nat) : Int)) := by
  rw [bin_rem (by decide)]
  have : (a : Int).tmod 3 = ((a % 3 : Nat) : Int) := by rw [Int.tmod_eq_emod_of_nonneg (by omega)]; omega
  rw [this]
end Go.AE
end
/- What is told beside the text: slices.SortFunc at things of k cells; and a plain function's exact world. -/
section
set_option linter.all false
namespace Go.AE
open Go.RowKit Go.Sort Go.Proofs
variable {D : Prop} {P : Program} {ρ : Ren} {σ : AHeap} {w : World}

theorem exact_grow {w w' : World} (hb : Go.RowKit.Below w.heap.size w w') (hd : w.drawn ≤ w'.drawn) : ∃ q os, w' = Sort.grow (w.drewN q) os := by
  refine ⟨w'.drawn - w.drawn, w'.heap.extract w.heap.size w'.heap.size, ?_⟩
  have hh : w'.heap = w.heap ++ w'.heap.extract w.heap.size w'.heap.size := by
    apply Array.ext_getElem?
    intro k
    rw [Array.getElem?_append]
    split
    · rename_i h; rw [hb.block k h]
    · rename_i h
      rw [Array.getElem?_extract]
      have := hb.size
      by_cases q : k < w'.heap.size
      · rw [if_pos (by omega), show w.heap.size + (k - w.heap.size) = k by omega]
      · rw [if_neg (by omega), Array.getElem?_eq_none (by omega)]
  cases w with | mk h1 t1 d1 o1 u1 => cases w' with | mk h2 t2 d2 o2 u2 =>
    have e1 := hb.os; have e2 := hb.tape; have e3 := hb.output
    simp only at e1 e2 e3 hh hd
    subst e1 e2 e3
    simp only [Sort.grow, World.drewN]
    congr 1
    omega
/-- A function of plain words, run over the heap without blocks, with no contract: what it answers, and the world to the block. -/
theorem plain_exact {n : Nat} {f : FuncId} {args : List Value} {v : Value} {σ' : AHeap} (hmix : P.follows .mixedOrders = true) (h : acall P [] (fun _ => none) n f args nought = some (v, σ')) (ha : ∀ x ∈ args, plain x = true) (hv : plain v = true) (w : World) :
    Calls P f args.toArray w fun e w' => e = .returned v ∧ ∃ q os, w' = Sort.grow (w.drewN q) os := by
  refine (acall_sound (D := True) hmix OrcS.none n f args nought v σ' h (fun _ => none) w args (fun g hg => by cases hg) (.of rfl fun i x hx => ⟨x, hx, .of_plain (ha x (List.mem_of_getElem? hx))⟩) (.nought w)).mono fun e w' ⟨ρ', v', he, hr, hR, hE⟩ => ?_
  refine ⟨by rw [he, VR.eq_of_plainF 6 v v' hv hr], exact_grow ⟨hE.os, hE.tape, hE.output, hE.size, fun k hk => hE.frame k hk fun ⟨b, o, m, hg, _⟩ => by cases hg⟩ (hE.drawn trivial)⟩

section
variable {α : Type} {k : Nat} {enc : α → List Value}
/-- slices.SortFunc, by a function of the program. -/
def sortFO (k : Nat) (dec : List Value → Option (List α)) (enc : α → List Value) (srt : List α → List α) (g : FuncId) (args : List Value) (σ : AHeap) : Option (Value × AHeap) := match args with
  | [.slice a n _, .func (.func g') ⟨[]⟩ ⟨[]⟩] => match g'.beq g && n.ble 4611686018427387903 with
    | true => match n with
      | 0 => some (.tuple #[], σ)
      | n + 1 => match a with
        | some ⟨b, o, none⟩ => match ldCells σ b o ((n + 1) * k) with
          | some cs => match dec cs with
            | some L => match stCells σ b o ((srt L).flatMap enc) with
              | some σ' => some (.tuple #[], σ')
              | none => none
            | none => none
          | none => none
        | _ => none
    | false => none
  | _ => none
theorem flatK_at (hE : Enc k enc) [Inhabited α] {L : List α} {j : Nat} (hj : j < L.length * k) : (L.flatMap enc)[j]? = some ((flatK enc k L.toArray)[j]!) := by
  have hk := hE.pos
  have h1 : j / k < L.length := Nat.div_lt_of_lt_mul (by rw [Nat.mul_comm]; exact hj)
  have h2 : j % k < k := Nat.mod_lt _ hk
  rw [get_flatK enc k L.toArray j (by simpa using hj)]
  have e1 : (L.toArray)[j / k]! = L[j / k] := by simp [h1]
  rw [e1]
  have h3 : j % k < (enc L[j / k]).length := by rw [hE.len]; exact h2
  have h4 := flat_get hE L (j / k) L[j / k] (j % k) ((enc L[j / k])[j % k]) (List.getElem?_eq_getElem h1) (List.getElem?_eq_getElem h3)
  rw [show j / k * k + j % k = j by rw [Nat.mul_comm]; exact Nat.div_add_mod j k] at h4
  rw [h4]
  simp [h3]
theorem Told.sortFunc (hE : Enc k enc) [Inhabited α] {gs : List Nat} {f g : FuncId} {dec : List Value → Option (List α)} {srt : List α → List α} (hat : ∀ x, ∀ v ∈ enc x, atom v = true) (hdec : ∀ cs L, dec cs = some L → cs = L.flatMap enc) (hsl : ∀ L, (srt L).length = L.length)
    (h0 : ∀ (p : Option Addr) (cap : Nat) (w : World), Calls P f #[.slice p 0 cap, .func (.func g) #[] #[]] w fun e w' => e = .returned (.tuple #[]) ∧ w' = w)
    (h1 : ∀ (blk off cap : Nat) (d : Array α) (w : World), HoldsK enc k w blk off d → blk < w.heap.size → d.size < 4611686018427387904 → Calls P f #[.slice (some ⟨blk, off, none⟩) d.size cap, .func (.func g) #[] #[]] w fun e w' => e = .returned (.tuple #[]) ∧ ∃ n os, w' = sortWorldK enc k w blk off n (srt d.toList).toArray os) :
    Told D P gs f (sortFO k dec enc srt g) := by
  intro args σ v σ' hs ρ w args' hG hl hR
  unfold sortFO at hs
  split at hs
  · rename_i a n cap g'
    split at hs
    · rename_i hg
      simp only [Bool.and_eq_true] at hg
      obtain rfl : g' = g := Nat.eq_of_beq_eq_true hg.1
      have hle := Nat.le_of_ble_eq_true hg.2
      obtain ⟨a', r', rfl, ha, hr0⟩ := hl.cons_inv
      obtain ⟨b', r2, rfl, hb, hr1⟩ := hr0.cons_inv
      have := hr1.nil_inv
      subst this
      obtain ⟨x', y', rfl, hx, hy⟩ := hb.func_inv
      obtain rfl : x' = #[] := by have := hx.nil_inv; apply Array.ext'; simpa using this
      obtain rfl : y' = #[] := by have := hy.nil_inv; apply Array.ext'; simpa using this
      split at hs
      · cases hs
        obtain ⟨p, c', rfl⟩ : ∃ p c', a' = .slice p 0 c' := by
          cases ha with
          | atom _ => exact ⟨_, _, rfl⟩
          | slice _ _ _ _ => exact ⟨_, _, rfl⟩
          | tail _ _ => exact ⟨_, _, rfl⟩
          | empty _ => exact ⟨_, _, rfl⟩
        refine (h0 p c' w).mono fun e w' ⟨he, hw⟩ => ?_
        subst hw
        exact ⟨ρ, _, he, VR.undef, hR, .refl _ _ _⟩
      · rename_i n0 n
        split at hs
        · rename_i b o
          split at hs
          · rename_i cs hcs
            split at hs
            · rename_i L hL
              split at hs
              · rename_i σ2 hst
                cases hs
                have hcsL := hdec cs L hL
                subst hcsL
                rcases ha.slice_inv with ⟨m, c', s, _, hm, hnc, _, _, rfl⟩ | ⟨m, a2, _, _, _, h5, _⟩ | ⟨_, _, h5, _⟩
                · have hk := hE.pos
                  obtain ⟨N, c, e, gr, ro, hget, hN⟩ : ∃ N c e gr ro, σ.get b = some (.cells N c e gr ro) ∧ ldN c o ((n + 1) * k) = some (L.flatMap enc) := by
                    unfold ldCells at hcs
                    split at hcs
                    · rename_i q; have := Nat.mul_eq_zero.1 q; omega
                    · split at hcs
                      · rename_i N c e gr ro hq; exact ⟨N, c, e, gr, ro, hq, hcs⟩
                      · cases hcs
                  obtain ⟨hlen, hcells⟩ := ldN_spec c _ _ _ hN
                  rw [flat_len hE] at hlen
                  have hLn : L.length = n + 1 := Nat.eq_of_mul_eq_mul_right hk hlen
                  obtain ⟨m2, hm2, ho⟩ := hR.obj b _ hget
                  simp only at hm
                  rw [hm] at hm2; cases hm2
                  obtain ⟨q1, q2, c2, fz, hheap, hsz, hth, hcell⟩ := ho
                  have hne : (srt L).flatMap enc ≠ [] := fun q => by
                    have := flat_len hE (srt L); rw [q, hsl, hLn] at this; simp at this; have := Nat.mul_eq_zero.1 this.symm; omega
                  obtain ⟨c3, hst3, hro, hσ2⟩ : ∃ c3, stN c o ((srt L).flatMap enc) = some c3 ∧ ro = false ∧ σ' = σ.set b (.cells N c3 e gr false) := by
                    unfold stCells at hst
                    split at hst
                    · rename_i q; exact absurd q hne
                    · rw [hget] at hst
                      cases ro with
                      | true => simp at hst
                      | false =>
                        simp only at hst
                        split at hst
                        · rename_i c3 hq; cases hst; exact ⟨c3, hq, rfl, rfl⟩
                        · cases hst
                  subst hro hσ2
                  obtain ⟨_, _, hc3⟩ := stN_spec _ _ _ _ hst3
                  have hreal : ∀ (j : Nat) (u : Value), (L.flatMap enc)[j]? = some u → c2[o + j + m.shift]? = some u := fun j u hu => by
                    obtain ⟨u', h6, h7⟩ := hcell (o + j) u (hcells j u hu)
                    obtain ⟨x, _, hx⟩ := List.mem_flatMap.1 (List.mem_of_getElem? hu)
                    rw [h7.atom_inv (hat x u hx)] at h6
                    exact h6
                  have hholds : HoldsK enc k w m.blk (o + m.shift) L.toArray := fun j hj => by
                    have hj' : j < L.length * k := by simpa using hj
                    have := hreal j _ (flatK_at hE hj')
                    have hlt := (Array.getElem?_eq_some_iff.1 this).1
                    refine ⟨?_, frozen_of hheap (by rw [hsz]; exact (hth rfl).1) (by omega)⟩
                    rw [cell_of hheap, show o + m.shift + j = o + j + m.shift by omega]
                    exact this
                  have call := h1 m.blk (o + m.shift) c' L.toArray w hholds (hR.lt _ _ hm) (by simp; omega)
                  have e4 : L.toArray.size = n + 1 := by simpa using hLn
                  rw [e4] at call
                  refine call.mono fun ee w' ⟨he, n', os, hw⟩ => ?_
                  -- the row's cells laid, then new blocks
                  let d' := (srt L.toArray.toList).toArray
                  let w1 := putRowK enc k (Sort.ahead w n') m.blk (o + m.shift) d'
                  have hw1 : w1.heap = w.heap.modify m.blk (onCells (putCells id (o + m.shift) (flatK enc k d'))) := rfl
                  have hsize : w1.heap.size = w.heap.size := by rw [hw1]; simp
                  have hoth : ∀ q, q ≠ m.blk → w1.heap[q]? = w.heap[q]? := fun q hq => by rw [hw1, Array.getElem?_modify, if_neg (fun e => hq e.symm)]
                  have hblk : w1.heap[m.blk]? = some (.cells (putCells id (o + m.shift) (flatK enc k d') c2) e fz) := by rw [hw1, Array.getElem?_modify, if_pos rfl, hheap]; rfl
                  have hds : (flatK enc k d').size = (srt L).length * k := by simp [d']
                  have hO : ObjR P ρ w1 m (.cells N c3 e gr false) := by
                    refine ⟨q1, q2, _, fz, hblk, by simp [putCells, hsz], hth, fun i u hu => ?_⟩
                    rw [hc3] at hu
                    rw [flat_len hE] at hu
                    simp only [putCells, Array.getElem?_mapIdx]
                    split at hu
                    · rename_i hin
                      have hj : i - o < (srt L).length * k := by omega
                      obtain ⟨x, _, hx⟩ := List.mem_flatMap.1 (List.mem_of_getElem? hu)
                      have e5 : (srt L).flatMap enc = (d'.toList).flatMap enc := by simp [d']
                      have hfl := flatK_at hE (L := srt L) hj
                      rw [hu] at hfl
                      have hlt : i + m.shift < c2.size := by
                        have hj2 : i - o < L.length * k := by rw [← hsl]; exact hj
                        have := (Array.getElem?_eq_some_iff.1 (hreal (i - o) _ (flatK_at hE hj2))).1
                        omega
                      rw [Array.getElem?_eq_getElem hlt, Option.map_some, if_pos (by rw [hds]; omega)]
                      refine ⟨_, rfl, ?_⟩
                      rw [show i + m.shift - (o + m.shift) = i - o by omega]
                      have e6 : (flatK enc k d')[i - o]! = u := by
                        have : d' = (srt L).toArray := by simp [d']
                        rw [this]
                        exact (Option.some.inj hfl).symm
                      rw [show (id ((flatK enc k d')[i - o]!) : Value) = u from e6]
                      exact .atom (hat x u hx)
                    · rename_i hin
                      obtain ⟨u', h6, h7⟩ := hcell i u hu
                      refine ⟨u', ?_, h7⟩
                      rw [h6, Option.map_some, if_neg (by rw [hds]; omega)]
                  have hR1 := hR.upd hget rfl hm hsize hoth hO rfl
                  have hE1 : Ext D ρ σ w ρ (σ.set b (.cells N c3 e gr false)) w1 := .upd hget rfl hm hsize hoth rfl rfl rfl rfl (Nat.le_add_right _ _)
                  have hbel : Go.RowKit.Below w1.heap.size w1 w' := by
                    rw [hw]
                    exact ⟨rfl, rfl, rfl, by show w1.heap.size ≤ (w1.heap ++ os).size; simp, fun q hq => by
                      show (w1.heap ++ os)[q]? = _
                      rw [Array.getElem?_append, if_pos hq]⟩
                  exact ⟨ρ, _, he, VR.undef, hR1.below hbel, hE1.trans (.below hbel fun _ => by rw [hw]; exact Nat.le_refl _)⟩
                · omega
                · omega
              · cases hs
            · cases hs
          · cases hs
        · cases hs
    · cases hs
  · cases hs
end
end Go.AE
end
/- A function whose arguments are words and one row that is only read, run by the evaluator: what it answers, in the model's words. -/
section
set_option linter.all false
namespace Go.AE
open Go.RowKit Go.ChangeShapes Go.WideShapes
variable {D : Prop} {P : Program}

/-- A run that answers true, over memory that is only read. -/
theorem open_true {orc : Orc} (hmix : P.follows .mixedOrders = true) (ho : OrcS D P [] orc) {n : Nat} {f : FuncId} {σ : AHeap} {ρ : Ren} {w : World} {args args' : List Value} (hR : Rel P ρ σ w) (hro : ∀ b o, σ.get b = some o → o.ro = true) (hl : LR P ρ args args')
    (h : W (acall P [] orc n f args σ) fun r => r.1 = .bool true) : Calls P f args'.toArray w fun e w' => e = .returned (.bool true) ∧ Below w.heap.size w w' := by
  obtain ⟨⟨v, σ'⟩, hc, hv0⟩ := h
  simp only at hv0
  subst hv0
  refine (acall_sound hmix ho n f args σ _ σ' hc ρ w args' (fun g hg => by cases hg) hl hR).mono fun e w' ⟨ρ', v', he, hv, hR', hE⟩ => ?_
  refine ⟨by rw [he, hv.bool_inv], hE.os, hE.tape, hE.output, hE.size, fun k hk => hE.frame k hk fun ⟨b, o, m, hg, hr, _⟩ => ?_⟩
  rw [hro b o hg] at hr
  cases hr
theorem nought_rel {w : World} : Rel P (fun _ => none) ⟨0, .leaf⟩ w :=
  ⟨fun _ _ => rfl, (fun _ _ h => by cases h), (fun b o h => by simp [AHeap.get, Tr.get] at h), (fun b _ o _ _ _ h => by simp [AHeap.get, Tr.get] at h)⟩
theorem nought_get {b : Nat} {o : AObj} (h : (⟨0, .leaf⟩ : AHeap).get b = some o) : o.ro = true := by simp [AHeap.get, Tr.get] at h
/-- One row that is only read. -/
def rowHeap (e : TypeId) (vs : List Value) : AHeap := ⟨1, (Tr.leaf : Tr AObj).put 0 (some (.cells vs.length (Tr.ofList vs 0 .leaf) e false true))⟩
theorem rowHeap_get {e : TypeId} {vs : List Value} {b : Nat} : (rowHeap e vs).get b = if b = 0 then some (.cells vs.length (Tr.ofList vs 0 .leaf) e false true) else none := by
  unfold rowHeap AHeap.get
  simp only [Tr.get_put]
  split
  · rfl
  · rfl
theorem rowHeap_ro {e : TypeId} {vs : List Value} {b : Nat} {o : AObj} (h : (rowHeap e vs).get b = some o) : o.ro = true := by
  rw [rowHeap_get] at h
  split at h
  · cases h; rfl
  · cases h
theorem row_rel {w : World} {blk off : Nat} {e : TypeId} {cs : Array Value} {fz : Nat × Nat} {vs : List Value} (hb : w.heap[blk]? = some (.cells cs e fz)) (hv : ∀ (i : Nat) v, vs[i]? = some v → cs[i + off]? = some v) (hat : ∀ v ∈ vs, atom v = true) :
    Rel P (fun b => if b = 0 then some ⟨blk, off, e, cs.size, false⟩ else none) (rowHeap e vs) w := by
  refine ⟨fun b hb => ?_, fun b m hm => ?_, fun b o ho => ?_, fun b1 b2 o1 o2 m1 m2 e1 e2 _ _ hr _ => ?_⟩
  · have h1 : 1 ≤ b := hb
    exact if_neg (by omega)
  · split at hm
    · cases hm; exact (Array.getElem?_eq_some_iff.1 hb).1
    · cases hm
  · rw [rowHeap_get] at ho
    split at ho
    · rename_i h0
      cases ho
      refine ⟨_, if_pos h0, rfl, rfl, cs, fz, hb, rfl, (fun q => by cases q), fun i v hi => ?_⟩
      rw [Tr.get_of] at hi
      exact ⟨v, hv i v hi, .atom (hat v (List.mem_of_getElem? hi))⟩
    · cases ho
  · have := rowHeap_ro e1; rw [hr] at this; cases this
section
variable {α : Type} {k : Nat} {enc' : α → List Value}
end
end Go.AE
end
/- What came in as a slice of words, and its beginning. -/
section
set_option linter.all false
namespace Go.AE
open Go.RowKit Go.ChangeShapes Go.WideShapes
variable {P : Program}
/-- A slice whose beginning may be taken. -/
def SlCut (σ : AHeap) (v : Value) : Prop := v = .slice none 0 0 ∨ (∃ a : Addr, v = .slice (some { a with spot := some 0 }) 0 0) ∨ ∃ b o len cap n c e ro, v = .slice (some ⟨b, o, none⟩) len cap ∧ len ≤ cap ∧ 0 < cap ∧ b < σ.next ∧ σ.get b = some (.cells n c e false ro)
theorem SlCut.same {σ σ' : AHeap} {F : List Nat} {v : Value} (h : SlCut σ v) (hs : Same σ σ' F) (hF : ∀ b ∈ blks v, b ∉ F) : SlCut σ' v := by
  rcases h with h | h | ⟨b, o, len, cap, n, c, e, ro, rfl, h1, h2, h3, h4⟩
  · exact .inl h
  · exact .inr (.inl h)
  · exact .inr (.inr ⟨b, o, len, cap, n, c, e, ro, rfl, h1, h2, Nat.lt_of_lt_of_le h3 hs.next, by rw [hs.get b h3 (hF b (by simp [blks]))]; exact h4⟩)
section
variable {α : Type} {k : Nat} {enc' : α → List Value}
theorem SlCut.take {t e : TypeId} {kk : IntKind} {σ : AHeap} {v : Value} {A : List α} (h : SlCut σ v) (ht : P.underlying t = some (.slice e)) (hs : sizeOf' P e = some k) (hv : SlR σ k enc' v A) {j : Nat} (hj : j ≤ A.length) :
    ∃ v', sliceOp P t v none (some (.int kk (j : Int))) none σ = some v' ∧ SlR σ k enc' v' (A.take j) ∧ ∀ b ∈ blks v', b ∈ blks v := by
  have ub : ∀ {y : Nat}, j ≤ y → ubound (.int kk (j : Int)) y = some j := fun {y} hy => by unfold ubound natOf; simp [Nat.ble_eq_true_of_le hy]
  rcases h with rfl | ⟨a, rfl⟩ | ⟨b, o, len, cap, n, c, e', ro, rfl, h1, h2, h3, h4⟩
  · obtain ⟨a', c', e1⟩ := hv.len
    injection e1 with _ e2 _
    obtain rfl : j = 0 := by omega
    exact ⟨.slice none 0 0, by simp only [sliceOp, ht, hs, bounds, ub (Nat.le_refl 0), lowB]; try rfl, .inl ⟨_, _, rfl, rfl⟩, fun b hb => hb⟩
  · obtain ⟨a', c', e1⟩ := hv.len
    injection e1 with _ e2 _
    obtain rfl : j = 0 := by omega
    exact ⟨exactEmpty { a with spot := some 0 }, by simp only [sliceOp, ht, hs, bounds, ub (Nat.le_refl 0), lowB]; try rfl, .inl ⟨_, _, rfl, rfl⟩, fun b hb => hb⟩
  · obtain ⟨a', c', e1⟩ := hv.len
    injection e1 with e0 e2 _
    have hz : cap.beq 0 = false := Bool.eq_false_iff.2 fun q => by have := Nat.eq_of_beq_eq_true q; omega
    refine ⟨.slice (some ⟨b, o, none⟩) j cap, ?_, ?_, fun b hb => hb⟩
    · simp only [sliceOp, ht, hs, Nat.ble_eq_true_of_le h1, bounds, ub (show j ≤ cap by omega), lowB, h4, Bool.not_false, Bool.true_or, sliceRow, hz, Nat.zero_mul, Addr.add, if_true, Nat.sub_zero]
    · by_cases hj0 : j = 0
      · subst hj0; exact .inl ⟨_, _, rfl, by simp⟩
      · rcases hv with ⟨a2, c2, e3, hA⟩ | ⟨b2, o2, cap2, e3, h5, h6⟩
        · subst hA; simp at hj; omega
        · injection e3 with e3 e4 e5
          injection e3 with e3
          injection e3 with e3 e6
          subst e3 e6
          refine .inr ⟨b, o, cap, by rw [List.length_take]; congr 1; omega, h5, fun i x hi => h6 i x ?_⟩
          rw [List.getElem?_take] at hi
          split at hi
          · exact hi
          · cases hi
theorem slice_arg2 [Inhabited α] (hE : Enc k enc') (hat : ∀ x, ∀ v ∈ enc' x, atom v = true) {H : Type} {enc : TypeId × Value → H} {w : World} {held : Bool} {t e : TypeId} {a : Option Addr} {len cap : Nat} {d : DataW H} {ps : List MemPlace}
    (ht : P.underlying t = some (.slice e)) (hc : P.cellsOf e = k) (dec : ∀ m cs y, DataW.trod enc P w 0 (fun _ => true) held m e cs = some y → ∃ z : α, cs = enc' z)
    (h : DataW.Trod enc P w 0 (fun _ => true) held t (.slice a len cap) d ps) :
    ∃ σ ρ v A, Rel P ρ σ w ∧ VR P ρ v (.slice a len cap) ∧ SlR σ k enc' v A ∧ (∀ b o, σ.get b = some o → o.ro = true) ∧ SlCut σ v := by
  obtain ⟨fuel, hf⟩ := h
  have hf' : DataW.trod enc P w 0 (fun _ => true) held fuel t [.slice a len cap] = some (d, ps) := by simpa [Value.cells] using hf
  have hk := hE.pos
  rcases Deep.open_slice ht hf' with ⟨e1, _⟩ | ⟨a', len', cap', m, n, Dd, Pl, e1, hb, hl, hm, hmm, hx, hel⟩
  · simp only [List.cons.injEq, Value.slice.injEq, and_true] at e1
    obtain ⟨rfl, rfl, rfl⟩ := e1
    exact ⟨⟨0, .leaf⟩, fun _ => none, .slice none 0 0, [], nought_rel, .atom rfl, .inl ⟨_, _, rfl, rfl⟩, fun b o h => nought_get h, .inl rfl⟩
  · simp only [List.cons.injEq, Value.slice.injEq, and_true] at e1
    obtain ⟨rfl, rfl, rfl⟩ := e1
    simp only [if_true] at hmm
    subst hmm
    by_cases h0 : m = 0
    · subst h0
      have : len = 0 := by omega
      subst this
      exact ⟨⟨0, .leaf⟩, fun _ => none, .slice (some ⟨0, 0, some 0⟩) 0 0, [], nought_rel, .empty (k := 0) rfl, .inl ⟨_, _, rfl, rfl⟩, fun b o h => nought_get h, .inr (.inl ⟨⟨0, 0, none⟩, rfl⟩)⟩
    · obtain ⟨F, hF⟩ := Deep.choose_lt (α := α) (p := fun i x => w.cells? 0 (a'.add (i * k)) k = some (enc' x)) (n := m) (fun i hi => by
        obtain ⟨cs', h1, h2⟩ := hel i hi
        obtain ⟨z, rfl⟩ := dec _ _ _ h2
        rw [hc] at h1
        exact ⟨z, h1⟩)
      obtain ⟨v0, hv0⟩ : ∃ v0, (enc' (F 0))[0]? = some v0 := ⟨_, List.getElem?_eq_getElem (by rw [hE.len]; exact hk)⟩
      have c0 : w.cell? a' = some v0 := by
        obtain ⟨_, h2, h3⟩ := World.cells?_some (hF 0 (by omega))
        have h4 := h3 0 hk
        rw [hv0] at h4
        simpa [Addr.add] using h4
      have hsp : a'.spot = none := World.cell?_spot c0
      obtain ⟨blk, off, spot⟩ := a'
      simp only at hsp
      subst hsp
      have hcell : ∀ i, i < m → ∀ j v, (enc' (F i))[j]? = some v → w.cell? ⟨blk, off + (i * k + j), none⟩ = some v := fun i hi j v hj => by
        obtain ⟨_, h2, h3⟩ := World.cells?_some (hF i hi)
        have hjl : j < k := by have := (List.getElem?_eq_some_iff.1 hj).1; rwa [hE.len] at this
        have h4 := h3 j hjl
        rw [hj, Go.WideShapes.add_plain, Go.WideShapes.add_plain] at h4
        simpa [Nat.add_assoc] using h4
      obtain ⟨cs, e', fz, hblk⟩ : ∃ cs e' fz, w.heap[blk]? = some (.cells cs e' fz) := by
        unfold World.cell? at c0
        simp only at c0
        split at c0
        · rename_i c1 c2 c3 hq; exact ⟨_, _, _, hq⟩
        · cases c0
      have hget : ∀ i, i < m → ∀ j v, (enc' (F i))[j]? = some v → cs[off + (i * k + j)]? = some v := fun i hi j v hj => by
        have := hcell i hi j v hj
        unfold World.cell? at this
        simp only [hblk] at this
        simpa using this
      have hA : ∀ i x, ((List.range len).map F)[i]? = some x → i < len ∧ x = F i := fun i x hi => by
        have hlt := (List.getElem?_eq_some_iff.1 hi).1
        simp at hlt
        refine ⟨hlt, ?_⟩
        rw [List.getElem?_map, List.getElem?_range hlt] at hi
        simpa using hi.symm
      refine ⟨rowHeap e' (((List.range len).map F).flatMap enc'), _, .slice (some ⟨0, 0, none⟩) len m, (List.range len).map F,
        row_rel (off := off) hblk (fun q v hq => ?_) (fun v hv => ?_), ?_, .inr ⟨0, 0, m, by simp, by unfold rowHeap; exact Nat.one_pos, fun i x hi => ?_⟩, fun b o h => rowHeap_ro h, .inr (.inr ⟨0, 0, len, m, _, _, _, _, rfl, hl, by omega, Nat.one_pos, by rw [rowHeap_get, if_pos rfl]⟩)⟩
      · obtain ⟨i, x, j, rfl, h3, h4⟩ := flat_of hE _ q v hq
        obtain ⟨h5, rfl⟩ := hA i x h3
        have := hget i (by omega) j v h4
        rwa [Nat.add_comm] at this
      · obtain ⟨x, _, hx⟩ := List.mem_flatMap.1 hv
        exact hat x v hx
      · have := VR.slice (P := P) (ρ := fun b => if b = 0 then some (⟨blk, off, e', cs.size, false⟩ : Img) else none) (b := 0) (o := 0) (n := len) (c := m) (c' := m) (s := 0) (m := ⟨blk, off, e', cs.size, false⟩) (by simp) hl (Nat.le_refl _) (.inl rfl)
        simpa using this
      · unfold AE.ldCells
        split
        · omega
        · rw [rowHeap_get, if_pos rfl]
          simp only
          have := ldN_of (c := Tr.ofList (((List.range len).map F).flatMap enc') 0 .leaf) (enc' x) (0 + i * k) fun j v hj => by
            rw [Tr.get_of, Nat.zero_add]
            exact flat_get hE _ i x j v hi hj
          rwa [hE.len] at this
end
end Go.AE
end
