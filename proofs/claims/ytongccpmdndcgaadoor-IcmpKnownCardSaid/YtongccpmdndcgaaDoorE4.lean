/- Texts of this proof, gathered. What each part says stands at its head; conditions: none but those that its theorems name. -/
import Derived.Test.YtongccpmdndcgaaDoorE3
import Derived.Maps.RangeRun
import Derived.Deep.Strs
import Derived.DataReads
/- Symbolic runs of the evaluator: a run's success with what holds behind it, one operation at a time. -/
section
set_option linter.all false
namespace Go.AE
variable {P : Program} {call : CallF} {n : Nat} {gs : List Nat} {orc : Orc}

/-- x comes to something that Q takes. -/
def W {α : Type} (x : Option α) (Q : α → Prop) : Prop := ∃ r, x = some r ∧ Q r
@[simp] theorem W_some {α : Type} (r : α) (Q : α → Prop) : W (some r) Q = Q r := by simp [W]
@[simp] theorem W_none {α : Type} (Q : α → Prop) : W (none : Option α) Q = False := by simp [W]
theorem W.mono {α : Type} {x : Option α} {Q R : α → Prop} (h : W x Q) (k : ∀ r, Q r → R r) : W x R := by obtain ⟨r, h1, h2⟩ := h; exact ⟨r, h1, k r h2⟩
@[congr] theorem W_congr {α : Type} {x y : Option α} {Q : α → Prop} (h : x = y) : W x Q = W y Q := by rw [h]

/-! What is left behind a piece. -/
def KSeq (P : Program) (call : CallF) (n : Nat) (b : Code) (Q : AExit × AFr × AHeap → Prop) : AExit × AFr × AHeap → Prop
  | (.normal, fr, σ) => W (exec P call n b fr σ) Q
  | r => Q r
def KBlk (id : Nat) (Q : AExit × AFr × AHeap → Prop) : AExit × AFr × AHeap → Prop
  | (.exit id', fr, σ) => if id' = id then Q (.normal, fr, σ) else Q (.exit id', fr, σ)
  | r => Q r
def KReg (Q : AExit × AFr × AHeap → Prop) : AFr × AHeap → Prop := fun r => Q (.normal, r.1, r.2)
def KOp (P : Program) (call : CallF) (all rest : List Oper) (d : Option Tmp) (fr : AFr) (K : AFr × AHeap → Prop) : Value × AHeap → Prop := fun r => W (runOps P call all rest (fr.put d r.1) r.2) K
def KRet (P : Program) (fn : Func) (Q : Value × AHeap → Prop) : AExit × AFr × AHeap → Prop
  | (.exit _, _, _) => False
  | (_, fr, σ) => W (results' P fn fr σ) fun v => Q (v, σ)
/-- A test. -/
def Wc (P : Program) (call : CallF) (n : Nat) (v : Value) (a b : Code) (fr : AFr) (σ : AHeap) (Q : AExit × AFr × AHeap → Prop) : Prop := match v with
  | .bool true => W (exec P call n a fr σ) Q
  | .bool false => W (exec P call n b fr σ) Q
  | _ => False

theorem W_skip {fr : AFr} {σ : AHeap} {Q} : W (exec P call n .skip fr σ) Q = Q (.normal, fr, σ) := by simp [exec]
theorem W_ret {fr : AFr} {σ : AHeap} {Q} : W (exec P call n .ret fr σ) Q = Q (.ret, fr, σ) := by simp [exec]
theorem W_exit {i : Nat} {fr : AFr} {σ : AHeap} {Q} : W (exec P call n (.exit i) fr σ) Q = Q (.exit i, fr, σ) := by simp [exec]
theorem W_scope {b : Code} {fr : AFr} {σ : AHeap} {Q} : W (exec P call n (.scope b) fr σ) Q = W (exec P call n b fr σ) Q := by simp [exec]
theorem W_seq {a b : Code} {fr : AFr} {σ : AHeap} {Q} : W (exec P call n (.seq a b) fr σ) Q = W (exec P call n a fr σ) (KSeq P call n b Q) := by
  rw [exec]
  cases h : exec P call n a fr σ with
  | none => simp
  | some r => obtain ⟨e, f, s⟩ := r; cases e <;> simp [KSeq]
theorem W_block {id : Nat} {b : Code} {fr : AFr} {σ : AHeap} {Q} : W (exec P call n (.block id b) fr σ) Q = W (exec P call n b fr σ) (KBlk id Q) := by
  rw [exec]
  cases h : exec P call n b fr σ with
  | none => simp
  | some r =>
    obtain ⟨e, f, s⟩ := r
    cases e with
    | exit i =>
      by_cases q : i = id
      · subst q; simp [KBlk, Nat.beq_refl]
      · have : i.beq id = false := Bool.eq_false_iff.2 fun h => q (Nat.eq_of_beq_eq_true h)
        simp [KBlk, this, q]
    | _ => simp [KBlk]
theorem W_cond {c : Operand} {a b : Code} {fr : AFr} {σ : AHeap} {Q} : W (exec P call n (.cond c a b) fr σ) Q = Wc P call n (fr.eval c) a b fr σ Q := by
  rw [exec]
  generalize fr.eval c = v
  cases v with
  | bool b => cases b <;> rfl
  | _ => exact W_none Q
theorem W_region {id : Nat} {ops : Array Oper} {fr : AFr} {σ : AHeap} {Q} : W (exec P call n (.region id ops false) fr σ) Q = W (runOps P call ops.toList ops.toList fr σ) (KReg Q) := by
  simp only [exec, region']
  cases h : runOps P call ops.toList ops.toList fr σ with
  | none => simp
  | some r => simp [KReg]
theorem W_ops_nil {all : List Oper} {fr : AFr} {σ : AHeap} {K} : W (runOps P call all [] fr σ) K = K (fr, σ) := by simp [runOps]
theorem W_ops {all rest : List Oper} {d : Option Tmp} {op : Op} {ty : TypeId} {pos : String} {af : Array Edge} {fr : AFr} {σ : AHeap} {K} :
    W (runOps P call all (⟨d, op, ty, pos, af, none⟩ :: rest) fr σ) K = W (aop P call ⟨d, op, ty, pos, af, none⟩ fr σ) (KOp P call all rest d fr K) := by
  rw [runOps]
  simp only [wanted']
  cases h : aop P call ⟨d, op, ty, pos, af, none⟩ fr σ with
  | none => simp
  | some r => simp [KOp]
def Gd (all : List Oper) (j : Nat) (fr : AFr) : Value := match all[j]? with
  | some o => match o.dst with
    | some d => fr.at_ d
    | none => undef
  | none => undef
def Wg (v : Value) (want : Bool) (A B : Prop) : Prop := match v with
  | .bool b => if b = want then A else B
  | _ => B
@[simp] theorem Wg_bool {b want : Bool} {A B : Prop} : Wg (.bool b) want A B = if b = want then A else B := rfl
/-- A guarded operation, its guard told. -/
def WGo (P : Program) (call : CallF) (all rest : List Oper) (o : Oper) (want : Bool) (fr : AFr) (σ : AHeap) (K : AFr × AHeap → Prop) (v : Value) : Prop := Wg v want (W (aop P call o fr σ) (KOp P call all rest o.dst fr K)) (W (runOps P call all rest (fr.put o.dst undef) σ) K)
theorem WGo_tt {all rest : List Oper} {o : Oper} {fr : AFr} {σ : AHeap} {K} : WGo P call all rest o true fr σ K (.bool true) = W (aop P call o fr σ) (KOp P call all rest o.dst fr K) := rfl
theorem WGo_ff {all rest : List Oper} {o : Oper} {fr : AFr} {σ : AHeap} {K} : WGo P call all rest o false fr σ K (.bool false) = W (aop P call o fr σ) (KOp P call all rest o.dst fr K) := rfl
theorem WGo_tf {all rest : List Oper} {o : Oper} {fr : AFr} {σ : AHeap} {K} : WGo P call all rest o true fr σ K (.bool false) = W (runOps P call all rest (fr.put o.dst undef) σ) K := rfl
theorem WGo_ft {all rest : List Oper} {o : Oper} {fr : AFr} {σ : AHeap} {K} : WGo P call all rest o false fr σ K (.bool true) = W (runOps P call all rest (fr.put o.dst undef) σ) K := rfl
theorem WGo_un {all rest : List Oper} {o : Oper} {want : Bool} {fr : AFr} {σ : AHeap} {K} : WGo P call all rest o want fr σ K undef = W (runOps P call all rest (fr.put o.dst undef) σ) K := rfl
theorem W_ops_guard {all rest : List Oper} {d : Option Tmp} {op : Op} {ty : TypeId} {pos : String} {af : Array Edge} {j : Nat} {want : Bool} {fr : AFr} {σ : AHeap} {K} :
    W (runOps P call all (⟨d, op, ty, pos, af, some (j, want)⟩ :: rest) fr σ) K = WGo P call all rest ⟨d, op, ty, pos, af, some (j, want)⟩ want fr σ K (Gd all j fr) := by
  have key : wanted' all fr ⟨d, op, ty, pos, af, some (j, want)⟩ = (match Gd all j fr with | .bool b => b == want | _ => false) := by
    show (match yields all fr j with | some b => b == want | none => false) = _
    unfold yields Gd
    cases all[j]? with
    | none => rfl
    | some o =>
      cases hd : o.dst with
      | none => simp only [hd, undef]
      | some dd => simp only [hd]; cases fr.at_ dd <;> rfl
  unfold WGo
  rw [runOps, key]
  generalize Gd all j fr = v
  unfold Wg
  cases v with
  | bool b =>
    by_cases hb : b = want
    · subst hb
      simp only [beq_self_eq_true, if_true]
      cases h : aop P call ⟨d, op, ty, pos, af, some (j, b)⟩ fr σ with
      | none => simp
      | some r => simp [KOp]
    · have : (b == want) = false := by simpa using hb
      simp only [this, if_neg hb]
  | _ => rfl
theorem KSeq_normal {b : Code} {fr : AFr} {σ : AHeap} {Q} : KSeq P call n b Q (.normal, fr, σ) = W (exec P call n b fr σ) Q := rfl
theorem KSeq_exit {b : Code} {i : Nat} {fr : AFr} {σ : AHeap} {Q} : KSeq P call n b Q (.exit i, fr, σ) = Q (.exit i, fr, σ) := rfl
theorem KSeq_ret {b : Code} {fr : AFr} {σ : AHeap} {Q} : KSeq P call n b Q (.ret, fr, σ) = Q (.ret, fr, σ) := rfl
theorem KBlk_normal {id : Nat} {fr : AFr} {σ : AHeap} {Q} : KBlk id Q (.normal, fr, σ) = Q (.normal, fr, σ) := rfl
theorem KBlk_ret {id : Nat} {fr : AFr} {σ : AHeap} {Q} : KBlk id Q (.ret, fr, σ) = Q (.ret, fr, σ) := rfl
theorem KBlk_exit {id i : Nat} {fr : AFr} {σ : AHeap} {Q} : KBlk id Q (.exit i, fr, σ) = if i = id then Q (.normal, fr, σ) else Q (.exit i, fr, σ) := rfl
theorem KReg_mk {fr : AFr} {σ : AHeap} {Q} : KReg Q (fr, σ) = Q (.normal, fr, σ) := rfl
theorem KOp_mk {all rest : List Oper} {d : Option Tmp} {fr : AFr} {K} {v : Value} {σ : AHeap} : KOp P call all rest d fr K (v, σ) = W (runOps P call all rest (fr.put d v) σ) K := rfl
theorem KRet_normal {fn : Func} {fr : AFr} {σ : AHeap} {Q} : KRet P fn Q (.normal, fr, σ) = W (results' P fn fr σ) fun v => Q (v, σ) := rfl
theorem KRet_ret {fn : Func} {fr : AFr} {σ : AHeap} {Q} : KRet P fn Q (.ret, fr, σ) = W (results' P fn fr σ) fun v => Q (v, σ) := rfl
theorem Wc_true {a b : Code} {fr : AFr} {σ : AHeap} {Q} : Wc P call n (.bool true) a b fr σ Q = W (exec P call n a fr σ) Q := rfl
theorem Wc_false {a b : Code} {fr : AFr} {σ : AHeap} {Q} : Wc P call n (.bool false) a b fr σ Q = W (exec P call n b fr σ) Q := rfl

theorem W_acall {f : FuncId} {fn : Func} {c : Code} {args : List Value} {σ : AHeap} {Q} (hf : P.funcs[f]? = some fn) (hb : fn.body = some c) (hk : codeOk gs c = true) (ho : orc f = none) :
    W (acall P gs orc (n + 1) f args σ) Q = W (exec P (acall P gs orc n) n c ⟨max fn.ntmps args.length, Tr.ofList args 0 .leaf⟩ σ) (KRet P fn Q) := by
  rw [acall]
  simp only [ho, hf, hb, hk]
  cases h : exec P (acall P gs orc n) n c ⟨max fn.ntmps args.length, Tr.ofList args 0 .leaf⟩ σ with
  | none => simp
  | some r =>
    obtain ⟨e, f, s⟩ := r
    cases e with
    | exit i => simp [KRet]
    | _ =>
      simp only [W_some, KRet]
      cases results' P fn f s <;> simp

/-! Loops. -/
theorem W_loop {body : Code} (I : Nat → AFr → AHeap → Prop) {Q : AExit × AFr × AHeap → Prop} {k : Nat}
    (hs : ∀ k fr σ, I k fr σ → W (exec P call n body fr σ) fun r => match r with | (.normal, fr', σ') => ∃ k', k' < k ∧ I k' fr' σ' | r => Q r) : ∀ (m k : Nat), k < m → ∀ fr σ, I k fr σ → W (loopN (exec P call n body) m fr σ) Q
  | 0, k, h, _, _, _ => by omega
  | m + 1, k, h, fr, σ, hi => by
    obtain ⟨r, h1, h2⟩ := hs k fr σ hi
    rw [loopN, h1]
    obtain ⟨e, fr', σ'⟩ := r
    cases e with
    | normal =>
      obtain ⟨k', hk, hi'⟩ := h2
      exact W_loop I (k := k) hs m k' (by omega) fr' σ' hi'
    | _ => simpa using h2
theorem W_loop_exec {body : Code} {fr : AFr} {σ : AHeap} {Q : AExit × AFr × AHeap → Prop} (I : Nat → AFr → AHeap → Prop) (k : Nat) (hk : k < n) (hi : I k fr σ)
    (hs : ∀ k fr σ, I k fr σ → W (exec P call n body fr σ) fun r => match r with | (.normal, fr', σ') => ∃ k', k' < k ∧ I k' fr' σ' | r => Q r) : W (exec P call n (.loop body) fr σ) Q := by
  rw [exec]; exact W_loop I (k := k) hs n k hk fr σ hi

/-! Frames. -/
theorem eval_tmp {fr : AFr} {t : Nat} : fr.eval (.tmp t) = fr.at_ t := rfl
theorem eval_const {fr : AFr} {v : Value} : fr.eval (.const v) = v := rfl
theorem eval_func {fr : AFr} {f : FuncId} : fr.eval (.func f) = .func (.func f) #[] #[] := rfl
theorem put_none {fr : AFr} {v : Value} : fr.put none v = fr := rfl
theorem put_mk {m : Nat} {t : Tr Value} {d : Nat} {v : Value} : AFr.put ⟨m, t⟩ (some d) v = if d < m then ⟨m, t.put d (some v)⟩ else ⟨m, t⟩ := by
  simp only [AFr.put]
  by_cases h : d < m
  · rw [show d.blt m = true from Nat.ble_eq_true_of_le h, if_pos h]
  · rw [show d.blt m = false from Bool.eq_false_iff.2 fun q => h (Nat.le_of_ble_eq_true q), if_neg h]
theorem at_mk {m : Nat} {t : Tr Value} {d : Nat} : AFr.at_ ⟨m, t⟩ d = (t.get d).getD undef := rfl
theorem get_put {t : Tr Value} {d k : Nat} {x : Option Value} : (t.put d x).get k = if k = d then x else t.get k := Tr.get_put _ _ _ _
theorem get_args {l : List Value} {k : Nat} : (Tr.ofList l 0 .leaf).get k = l[k]? := Tr.get_of l k

/-! Operations. -/
def loadV (P : Program) (t : TypeId) (v : Value) (σ : AHeap) : Option (Value × AHeap) := match v with
  | .pointer (some ⟨b, off, none⟩) => (ldVar P t σ b off).map (·, σ)
  | _ => none
def storeV (P : Program) (t : TypeId) (a v : Value) (σ : AHeap) : Option (Value × AHeap) := match a with
  | .pointer (some ⟨b, off, none⟩) => match sizeOf' P t with
    | some n => if v.cells.size = n then (stCells σ b off v.cells.toList).map fun σ => (undef, σ) else none
    | none => none
  | _ => none
def nilV (v : Value) : Option Value := match v with
  | .pointer (some a) => some (.pointer (some a))
  | .iface t v => some (.iface t v)
  | .func (.func f) a b => some (.func (.func f) a b)
  | .func (.methodOf t n) a b => some (.func (.methodOf t n) a b)
  | .func (.via t p f q) a b => some (.func (.via t p f q) a b)
  | _ => none
def pickV (c a b : Value) : Option Value := match c with
  | .bool true => some a
  | .bool false => some b
  | _ => none
def allocV (P : Program) (e : TypeId) (σ : AHeap) : Option (Value × AHeap) := match zeroOf P e with
  | some z => some (ptr σ.next 0, (newCells σ e z.cells.toList).2)
  | none => none
def ifaceV (P : Program) (t : TypeId) (v : Value) : Option Value := match P.underlying t with
  | some (.interface _) => none
  | some _ => some (.iface t v)
  | none => none
def extV (v : Value) (i : Nat) : Option Value := match v with
  | .tuple vs => vs[i]?
  | _ => none
def withH (σ : AHeap) : Option Value → Option (Value × AHeap)
  | some v => some (v, σ)
  | none => none
@[simp] theorem withH_some {σ : AHeap} {v : Value} : withH σ (some v) = some (v, σ) := rfl
theorem withH_map {σ : AHeap} {x : Option Value} : x.map (·, σ) = withH σ x := by cases x <;> rfl
def callV (P : Program) (call : CallF) (v : Value) (args : List Value) (σ : AHeap) : Option (Value × AHeap) := match v with
  | .func (.func f) first captured => match enters P f with
    | true => call f (first.toList ++ args ++ captured.toList) σ
    | false => none
  | _ => none
def invokeV (P : Program) (call : CallF) (v : Value) (name : String) (args : List Value) (σ : AHeap) : Option (Value × AHeap) := match v with
  | .iface t v => match method' P 4 t v name σ with
    | some (f, r) => match enters P f with
      | true => call f (r :: args) σ
      | false => none
    | none => none
  | _ => none
section
variable {d : Option Tmp} {ty : TypeId} {pos : String} {af : Array Edge} {g : Option (Nat × Bool)} {fr : AFr} {σ : AHeap}
theorem aop_move {x : Operand} : aop P call ⟨d, .move x, ty, pos, af, g⟩ fr σ = some (fr.eval x, σ) := rfl
theorem aop_assign {x : Operand} : aop P call ⟨d, .assign x, ty, pos, af, g⟩ fr σ = some (fr.eval x, σ) := rfl
theorem aop_pick {c a b : Operand} : aop P call ⟨d, .pick c a b, ty, pos, af, g⟩ fr σ = withH σ (pickV (fr.eval c) (fr.eval a) (fr.eval b)) := by
  simp only [aop, pickV]; generalize fr.eval c = v; cases v with
  | bool b => cases b <;> rfl
  | _ => rfl
theorem aop_alloc {e : TypeId} : aop P call ⟨d, .alloc e, ty, pos, af, g⟩ fr σ = allocV P e σ := by
  simp only [aop, allocV]; cases zeroOf P e <;> rfl
theorem aop_box {e : TypeId} {x : Operand} : aop P call ⟨d, .box e x, ty, pos, af, g⟩ fr σ = some (ptr σ.next 0, (newCells σ e (fr.eval x).cells.toList).2) := rfl
theorem aop_build {t : TypeId} {ps : Array (Nat × Operand)} : aop P call ⟨d, .build t ps, ty, pos, af, g⟩ fr σ = withH σ (build' P t (ps.toList.map fun (i, x) => (i, fr.eval x))) := by
  simp only [aop, withH_map]
theorem aop_load {t : TypeId} {a : Operand} : aop P call ⟨d, .load t a, ty, pos, af, g⟩ fr σ = loadV P t (fr.eval a) σ := by
  simp only [aop, loadV]
  generalize fr.eval a = v
  cases v <;> rfl
theorem aop_store {t : TypeId} {a x : Operand} : aop P call ⟨d, .store t a x, ty, pos, af, g⟩ fr σ = storeV P t (fr.eval a) (fr.eval x) σ := by
  simp only [aop, storeV]
  generalize fr.eval a = v
  cases v <;> rfl
theorem aop_nilCheck {x : Operand} : aop P call ⟨d, .nilCheck x, ty, pos, af, g⟩ fr σ = withH σ (nilV (fr.eval x)) := by
  simp only [aop, nilV]; split <;> simp_all [withH]
theorem aop_binOp {op : BinOp} {t t2 : TypeId} {x y : Operand} : aop P call ⟨d, .binOp op t x y t2, ty, pos, af, g⟩ fr σ = withH σ (bin P op t x y (fr.eval x) (fr.eval y)) := by
  simp only [aop, withH_map]
theorem aop_unOp {op : UnOp} {t : TypeId} {x : Operand} : aop P call ⟨d, .unOp op t x, ty, pos, af, g⟩ fr σ = withH σ (un P op (fr.eval x)) := by
  simp only [aop, withH_map]
theorem aop_convert {s t : TypeId} {x : Operand} : aop P call ⟨d, .convert s t x, ty, pos, af, g⟩ fr σ = conv P s t (fr.eval x) σ := rfl
theorem aop_makeInterface {t : TypeId} {x : Operand} : aop P call ⟨d, .makeInterface t x, ty, pos, af, g⟩ fr σ = withH σ (ifaceV P t (fr.eval x)) := by
  simp only [aop, ifaceV]; split <;> simp_all [withH]
theorem aop_makeFunc {fn : Fn} {a b : Array Operand} : aop P call ⟨d, .makeFunc fn a b, ty, pos, af, g⟩ fr σ = some (.func fn (a.map fr.eval) (b.map fr.eval), σ) := rfl
theorem aop_makeMap {t : TypeId} : aop P call ⟨d, .makeMap t none, ty, pos, af, g⟩ fr σ = some (.map (some σ.next), (σ.new (.map [] 0 false)).2) := rfl
theorem aop_slice {t : TypeId} {x : Operand} {lo hi mx : Option Operand} : aop P call ⟨d, .slice t x lo hi mx, ty, pos, af, g⟩ fr σ = withH σ (sliceOp P t (fr.eval x) (lo.map fr.eval) (hi.map fr.eval) (mx.map fr.eval) σ) := by
  simp only [aop, withH_map]
theorem aop_fieldAddr {s : TypeId} {x : Operand} {f : Nat} : aop P call ⟨d, .fieldAddr s x f, ty, pos, af, g⟩ fr σ = withH σ (fieldAddr P s (fr.eval x) f) := by
  simp only [aop, withH_map]
theorem aop_field {s : TypeId} {x : Operand} {f : Nat} : aop P call ⟨d, .field s x f, ty, pos, af, g⟩ fr σ = withH σ (fieldVal P s (fr.eval x) f) := by
  simp only [aop, withH_map]
theorem aop_indexAddr {t : TypeId} {x i : Operand} : aop P call ⟨d, .indexAddr t x i, ty, pos, af, g⟩ fr σ = withH σ (indexAddr P t (fr.eval x) (fr.eval i)) := by
  simp only [aop, withH_map]
theorem aop_index {t : TypeId} {x i : Operand} : aop P call ⟨d, .index t x i, ty, pos, af, g⟩ fr σ = withH σ (indexVal P t (fr.eval x) (fr.eval i)) := by
  simp only [aop, withH_map]
theorem aop_lookup {t : TypeId} {x i : Operand} {ok : Bool} : aop P call ⟨d, .lookup t x i ok, ty, pos, af, g⟩ fr σ = withH σ (lookup' P t (fr.eval x) (fr.eval i) ok σ) := by
  simp only [aop, withH_map]
theorem aop_mapUpdate {t : TypeId} {m k x : Operand} : aop P call ⟨d, .mapUpdate t m k x, ty, pos, af, g⟩ fr σ = (mapPut P t (fr.eval m) (fr.eval k) (fr.eval x) σ).map (undef, ·) := rfl
theorem aop_extract {t : Operand} {i : Nat} : aop P call ⟨d, .extract t i, ty, pos, af, g⟩ fr σ = withH σ (extV (fr.eval t) i) := by
  simp only [aop, extV]; split <;> simp_all [withH_map, withH]
theorem aop_builtin {b : Builtin} {args : Array Operand} {ts : Array TypeId} : aop P call ⟨d, .call ⟨.builtin b, args, ts⟩, ty, pos, af, g⟩ fr σ = builtin' P b ts (args.toList.map fr.eval) σ := rfl
theorem aop_call {f : Operand} {args : Array Operand} {ts : Array TypeId} : aop P call ⟨d, .call ⟨.value f, args, ts⟩, ty, pos, af, g⟩ fr σ = callV P call (fr.eval f) (args.toList.map fr.eval) σ := by
  simp only [aop, callV]
  generalize fr.eval f = v
  cases v <;> rfl
theorem aop_invoke {r : Operand} {name : String} {args : Array Operand} {ts : Array TypeId} : aop P call ⟨d, .call ⟨.invoke r name, args, ts⟩, ty, pos, af, g⟩ fr σ = invokeV P call (fr.eval r) name (args.toList.map fr.eval) σ := by
  simp only [aop, invokeV]
  generalize fr.eval r = v
  cases v <;> rfl
theorem aop_typeAssert {x : Operand} {t a : TypeId} {ok : Bool} : aop P call ⟨d, .typeAssert x t a ok, ty, pos, af, g⟩ fr σ = withH σ (typeAssert' P (fr.eval x) a ok) := by
  simp only [aop, withH_map]
end
end Go.AE
namespace Go.AE
variable {P : Program}
theorem indexAddr_slice {t e s : Nat} (h : P.underlying t = some (.slice e)) (hs : sizeOf' P e = some s) {b o len cap : Nat} {ix : Value} : indexAddr P t (.slice (some ⟨b, o, none⟩) len cap) ix = (idx ix len).map fun i => .pointer (some ⟨b, o + i * s, none⟩) := by
  simp only [indexAddr, h, hs]
  cases idx ix len <;> simp [Addr.add]
end Go.AE
namespace Go.AE
variable {P : Program} {call : CallF} {n : Nat} {gs : List Nat} {orc : Orc}
/-- Drawn regions whose text order serves, laid plainly. -/
def undraw (P : Program) : Code → Code
  | .region id ops true => .region id ops (!(drawOk P [] ops.toList && (unruly P ops.toList).isEmpty))
  | .seq a b => .seq (undraw P a) (undraw P b)
  | .cond c a b => .cond c (undraw P a) (undraw P b)
  | .block id b => .block id (undraw P b)
  | .loop b => .loop (undraw P b)
  | .scope b => .scope (undraw P b)
  | c => c
theorem loopN_congr {f g : AFr → AHeap → Option (AExit × AFr × AHeap)} (h : ∀ fr σ, f fr σ = g fr σ) : ∀ (m : Nat) (fr : AFr) (σ : AHeap), loopN f m fr σ = loopN g m fr σ
  | 0, _, _ => rfl
  | m + 1, fr, σ => by
    rw [loopN, loopN, h]
    split
    · exact loopN_congr h m _ _
    · rfl
theorem exec_undraw : ∀ (c : Code) (fr : AFr) (σ : AHeap), exec P call n (undraw P c) fr σ = exec P call n c fr σ
  | .region id ops true, fr, σ => by
    rw [undraw]
    cases h1 : drawOk P [] ops.toList with
    | false => rfl
    | true =>
      cases h2 : unruly P ops.toList with
      | nil => simp only [List.isEmpty_nil, Bool.and_self, Bool.not_true, exec, region', h1, h2]
      | cons x l => rfl
  | .region id ops false, _, _ => rfl
  | .seq a b, fr, σ => by
    rw [undraw, exec, exec, exec_undraw a]
    split
    · exact exec_undraw b _ _
    · rfl
  | .cond c a b, fr, σ => by
    rw [undraw, exec, exec]
    split
    · exact exec_undraw a _ _
    · exact exec_undraw b _ _
    · rfl
  | .block id b, fr, σ => by rw [undraw, exec, exec, exec_undraw b]
  | .loop b, fr, σ => by rw [undraw, exec, exec]; exact loopN_congr (exec_undraw b) n fr σ
  | .scope b, fr, σ => by rw [undraw, exec, exec]; exact exec_undraw b fr σ
  | .skip, _, _ => rfl
  | .exit _, _, _ => rfl
  | .rangeFunc .., _, _ => rfl
  | .label _, _, _ => rfl
  | .goto _, _, _ => rfl
  | .ret, _, _ => rfl
  | .refuse _, _, _ => rfl
/-- A function entered: its code with the drawn regions laid plainly. -/
theorem W_enter {f : FuncId} {fn : Func} {c c' : Code} {m : Nat} {args : List Value} {σ : AHeap} {Q} (hf : P.funcs[f]? = some fn) (hb : fn.body = some c) (hc : undraw P c = c') (hk : codeOk gs c = true) (ho : orc f = none) (hm : max fn.ntmps args.length = m) :
    W (acall P gs orc (n + 1) f args σ) Q = W (exec P (acall P gs orc n) n c' ⟨m, Tr.ofList args 0 .leaf⟩ σ) (KRet P fn Q) := by
  rw [W_acall hf hb hk ho, hm, ← hc]
  unfold W
  simp only [exec_undraw]
end Go.AE
namespace Go.AE
variable {P : Program} {call : CallF} {n : Nat} {gs : List Nat} {orc : Orc}
/-- The drawn regions laid plainly, but those of the listed numbers. -/
def plainD (keep : List Nat) : Code → Code
  | .region id ops d => .region id ops (d && keep.contains id)
  | .seq a b => .seq (plainD keep a) (plainD keep b)
  | .cond c a b => .cond c (plainD keep a) (plainD keep b)
  | .block id b => .block id (plainD keep b)
  | .loop b => .loop (plainD keep b)
  | .scope b => .scope (plainD keep b)
  | c => c
theorem plainD_region {id : Nat} {ops : Array Oper} {d : Bool} : plainD [] (.region id ops d) = .region id ops false := by simp [plainD]
theorem plainD_cons {id k : Nat} {keep : List Nat} {ops : Array Oper} {d : Bool} : plainD (k :: keep) (.region id ops d) = if id = k then .region id ops d else plainD keep (.region id ops d) := by
  by_cases h : id = k
  · subst h; simp [plainD]
  · simp [plainD, h]
theorem plainD_seq {keep : List Nat} {a b : Code} : plainD keep (.seq a b) = .seq (plainD keep a) (plainD keep b) := rfl
theorem plainD_cond {keep : List Nat} {c : Operand} {a b : Code} : plainD keep (.cond c a b) = .cond c (plainD keep a) (plainD keep b) := rfl
theorem plainD_block {keep : List Nat} {id : Nat} {b : Code} : plainD keep (.block id b) = .block id (plainD keep b) := rfl
theorem plainD_loop {keep : List Nat} {b : Code} : plainD keep (.loop b) = .loop (plainD keep b) := rfl
theorem plainD_scope {keep : List Nat} {b : Code} : plainD keep (.scope b) = .scope (plainD keep b) := rfl
theorem plainD_skip {keep : List Nat} : plainD keep .skip = .skip := rfl
theorem plainD_ret {keep : List Nat} : plainD keep .ret = .ret := rfl
theorem plainD_exit {keep : List Nat} {i : Nat} : plainD keep (.exit i) = .exit i := rfl
theorem W_start {f : FuncId} {fn : Func} {c : Code} {keep : List Nat} {m : Nat} {args : List Value} {σ : AHeap} {Q} (hf : P.funcs[f]? = some fn) (hb : fn.body = some c) (hc : undraw P c = plainD keep c) (hk : codeOk gs c = true) (ho : orc f = none) (hm : max fn.ntmps args.length = m) :
    W (acall P gs orc (n + 1) f args σ) Q = W (exec P (acall P gs orc n) n (plainD keep c) ⟨m, Tr.ofList args 0 .leaf⟩ σ) (KRet P fn Q) := W_enter hf hb hc hk ho hm

/-! Regions in which what is read is read again. -/
def KTr (P : Program) (call : CallF) (ops rest : List Oper) (d : Option Tmp) (fr : AFr) (σ : AHeap) (K : List (AFr × AHeap × Value) × AFr × AHeap → Prop) : Value × AHeap → Prop := fun r => W (runTr P call ops rest (fr.put d r.1) r.2) fun x => K ((fr, σ, r.1) :: x.1, x.2)
def KRe (P : Program) (call : CallF) (ops : List Oper) (ps : List (Nat × Nat)) (Q : AExit × AFr × AHeap → Prop) : List (AFr × AHeap × Value) × AFr × AHeap → Prop := fun r => retold P call ops r.1 r.2.2 ps = true ∧ Q (.normal, r.2.1, r.2.2)
theorem W_retold {id : Nat} {ops : Array Oper} {ps : List (Nat × Nat)} {fr : AFr} {σ : AHeap} {Q} (h1 : drawOk P [] ops.toList = true) (h2 : unruly P ops.toList = ps) (h3 : ps ≠ []) :
    W (exec P call n (.region id ops true) fr σ) Q = W (runTr P call ops.toList ops.toList fr σ) (KRe P call ops.toList ps Q) := by
  have e : exec P call n (.region id ops true) fr σ = (match (match runTr P call ops.toList ops.toList fr σ with
      | some (tr, fr', σ') => (match retold P call ops.toList tr σ' ps with | true => some (fr', σ') | false => none)
      | none => none) with
    | some (fr, σ) => some (.normal, fr, σ)
    | none => none) := by
    simp only [exec, region', h1, h2]
    cases ps with
    | nil => exact absurd rfl h3
    | cons a l => rfl
  rw [e]
  cases h : runTr P call ops.toList ops.toList fr σ with
  | none => simp
  | some r =>
    obtain ⟨tr, fr', σ'⟩ := r
    simp only [W_some, KRe]
    cases hr : retold P call ops.toList tr σ' ps <;> simp
theorem W_tr_nil {all : List Oper} {fr : AFr} {σ : AHeap} {K} : W (runTr P call all [] fr σ) K = K ([], fr, σ) := by simp [runTr]
theorem W_tr {all rest : List Oper} {d : Option Tmp} {op : Op} {ty : TypeId} {pos : String} {af : Array Edge} {fr : AFr} {σ : AHeap} {K} :
    W (runTr P call all (⟨d, op, ty, pos, af, none⟩ :: rest) fr σ) K = W (aop P call ⟨d, op, ty, pos, af, none⟩ fr σ) (KTr P call all rest d fr σ K) := by
  rw [runTr]
  simp only [wanted']
  cases h : aop P call ⟨d, op, ty, pos, af, none⟩ fr σ with
  | none => simp
  | some r =>
    obtain ⟨v, σ'⟩ := r
    simp only [W_some, KTr]
    cases h2 : runTr P call all rest (fr.put d v) σ' with
    | none => simp
    | some x => simp
def WGt (P : Program) (call : CallF) (all rest : List Oper) (o : Oper) (want : Bool) (fr : AFr) (σ : AHeap) (K : List (AFr × AHeap × Value) × AFr × AHeap → Prop) (v : Value) : Prop := Wg v want (W (aop P call o fr σ) (KTr P call all rest o.dst fr σ K)) (W (runTr P call all rest (fr.put o.dst undef) σ) fun x => K ((fr, σ, undef) :: x.1, x.2))
theorem WGt_tt {all rest : List Oper} {o : Oper} {fr : AFr} {σ : AHeap} {K} : WGt P call all rest o true fr σ K (.bool true) = W (aop P call o fr σ) (KTr P call all rest o.dst fr σ K) := rfl
theorem WGt_ff {all rest : List Oper} {o : Oper} {fr : AFr} {σ : AHeap} {K} : WGt P call all rest o false fr σ K (.bool false) = W (aop P call o fr σ) (KTr P call all rest o.dst fr σ K) := rfl
theorem WGt_tf {all rest : List Oper} {o : Oper} {fr : AFr} {σ : AHeap} {K} : WGt P call all rest o true fr σ K (.bool false) = W (runTr P call all rest (fr.put o.dst undef) σ) (fun x => K ((fr, σ, undef) :: x.1, x.2)) := rfl
theorem WGt_ft {all rest : List Oper} {o : Oper} {fr : AFr} {σ : AHeap} {K} : WGt P call all rest o false fr σ K (.bool true) = W (runTr P call all rest (fr.put o.dst undef) σ) (fun x => K ((fr, σ, undef) :: x.1, x.2)) := rfl
theorem WGt_un {all rest : List Oper} {o : Oper} {want : Bool} {fr : AFr} {σ : AHeap} {K} : WGt P call all rest o want fr σ K undef = W (runTr P call all rest (fr.put o.dst undef) σ) (fun x => K ((fr, σ, undef) :: x.1, x.2)) := rfl
theorem W_tr_guard {all rest : List Oper} {d : Option Tmp} {op : Op} {ty : TypeId} {pos : String} {af : Array Edge} {j : Nat} {want : Bool} {fr : AFr} {σ : AHeap} {K} :
    W (runTr P call all (⟨d, op, ty, pos, af, some (j, want)⟩ :: rest) fr σ) K = WGt P call all rest ⟨d, op, ty, pos, af, some (j, want)⟩ want fr σ K (Gd all j fr) := by
  have key : wanted' all fr ⟨d, op, ty, pos, af, some (j, want)⟩ = (match Gd all j fr with | .bool b => b == want | _ => false) := by
    show (match yields all fr j with | some b => b == want | none => false) = _
    unfold yields Gd
    cases all[j]? with
    | none => rfl
    | some o =>
      cases hd : o.dst with
      | none => simp only [hd, undef]
      | some dd => simp only [hd]; cases fr.at_ dd <;> rfl
  have no : W (match runTr P call all rest (fr.put d undef) σ with | some (l, r) => some ((fr, σ, undef) :: l, r) | none => none) K = W (runTr P call all rest (fr.put d undef) σ) fun x => K ((fr, σ, undef) :: x.1, x.2) := by
    cases h : runTr P call all rest (fr.put d undef) σ with
    | none => simp
    | some x => simp
  unfold WGt
  rw [runTr, key]
  generalize Gd all j fr = v
  unfold Wg
  cases v with
  | bool b =>
    by_cases hb : b = want
    · subst hb
      simp only [beq_self_eq_true, if_true]
      cases h : aop P call ⟨d, op, ty, pos, af, some (j, b)⟩ fr σ with
      | none => simp
      | some r =>
        obtain ⟨v, σ'⟩ := r
        simp only [W_some, KTr]
        cases h2 : runTr P call all rest (fr.put d v) σ' with
        | none => simp
        | some x => simp
    · have : (b == want) = false := by simpa using hb
      simp only [this, if_neg hb]
      exact no
  | _ => exact no
theorem KTr_mk {all rest : List Oper} {d : Option Tmp} {fr : AFr} {σ σ' : AHeap} {K} {v : Value} : KTr P call all rest d fr σ K (v, σ') = W (runTr P call all rest (fr.put d v) σ') fun x => K ((fr, σ, v) :: x.1, x.2) := rfl
theorem KRe_mk {ops : List Oper} {ps : List (Nat × Nat)} {Q} {tr : List (AFr × AHeap × Value)} {fr : AFr} {σ : AHeap} : KRe P call ops ps Q (tr, fr, σ) = (retold P call ops tr σ ps = true ∧ Q (.normal, fr, σ)) := rfl
end Go.AE
namespace Go.AE
variable {P : Program} {call : CallF} {n : Nat} {gs : List Nat} {orc : Orc}
/-! Operations on known words. -/
section
variable {t : TypeId} {x y : Operand} {k : IntKind} {a b : Int} {s u : ByteArray}
theorem pureP_pure {α : Type} (a : α) : pureP P (pure a : Sem α) = some a := rfl
theorem bin_lss : bin P .lss t x y (.int k a) (.int k b) = some (.bool (decide (a < b))) := by simp [bin, Go.binOp, Op.intCmp, pureP_pure, atomic, atom]
theorem bin_leq : bin P .leq t x y (.int k a) (.int k b) = some (.bool (decide (a ≤ b))) := by simp [bin, Go.binOp, Op.intCmp, pureP_pure, atomic, atom]
theorem bin_gtr : bin P .gtr t x y (.int k a) (.int k b) = some (.bool (decide (b < a))) := by simp [bin, Go.binOp, Op.intCmp, pureP_pure, atomic, atom]
theorem bin_geq : bin P .geq t x y (.int k a) (.int k b) = some (.bool (decide (b ≤ a))) := by simp [bin, Go.binOp, Op.intCmp, pureP_pure, atomic, atom]
theorem int_beq (a b : Int) : (a == b) = decide (a = b) := by by_cases h : a = b <;> simp [h]
theorem bin_ieql : bin P .eql t x y (.int k a) (.int k b) = some (.bool (decide (a = b))) := by
  simp [int_beq, bin, Go.binOp, Op.intCmp, pureP_pure, atomic, atom]
theorem bin_ineq : bin P .neq t x y (.int k a) (.int k b) = some (.bool (!decide (a = b))) := by
  simp [int_beq, bin, Go.binOp, Op.intCmp, pureP_pure, atomic, atom, bne]
theorem bin_add : bin P .add t x y (.int k a) (.int k b) = some (.int k (k.wrap (a + b))) := by simp [bin, Go.binOp, Op.intArith, pureP_pure, atomic, atom]
theorem bin_sub : bin P .sub t x y (.int k a) (.int k b) = some (.int k (k.wrap (a - b))) := by simp [bin, Go.binOp, Op.intArith, pureP_pure, atomic, atom]
theorem bin_mul : bin P .mul t x y (.int k a) (.int k b) = some (.int k (k.wrap (a * b))) := by simp [bin, Go.binOp, Op.intArith, pureP_pure, atomic, atom]
theorem bin_quo (h : b ≠ 0) : bin P .quo t x y (.int k a) (.int k b) = some (.int k (k.wrap (a.tdiv b))) := by simp [bin, Go.binOp, Op.intDiv, pureP_pure, atomic, atom, h]
theorem bin_rem (h : b ≠ 0) : bin P .rem t x y (.int k a) (.int k b) = some (.int k (a.tmod b)) := by simp [bin, Go.binOp, Op.intDiv, pureP_pure, atomic, atom, h]
def sLt (s u : ByteArray) : Bool := Op.bytesLess s.data.toList u.data.toList
theorem bin_slss : bin P .lss t x y (.string s) (.string u) = some (.bool (sLt s u)) := rfl
theorem seq_dec {a b : ByteArray} : (a.data.toList == b.data.toList) = decide (a = b) := by
  by_cases h : a = b
  · subst h; simp
  · rw [decide_eq_false h]
    refine Bool.eq_false_iff.2 fun q => h ?_
    cases a with | mk x => cases b with | mk y => simp at q; rw [q]
theorem bin_seql : bin P .eql t x y (.string s) (.string u) = some (.bool (decide (s = u))) := by rw [← seq_dec]; rfl
theorem bin_sneq : bin P .neq t x y (.string s) (.string u) = some (.bool (!decide (s = u))) := by rw [← seq_dec]; rfl
theorem bin_sgtr : bin P .gtr t x y (.string s) (.string u) = some (.bool (!(sLt s u || decide (s = u)))) := by rw [← seq_dec]; rfl
theorem un_not {b : Bool} : un P .not (.bool b) = some (.bool !b) := by simp [un, atom, Op.unary, pureP_pure, atomic]
theorem nilV_ptr {a : Addr} : nilV (.pointer (some a)) = some (.pointer (some a)) := rfl
theorem nilV_iface {t : TypeId} {v : Value} : nilV (.iface t v) = some (.iface t v) := rfl
theorem pickV_true {a b : Value} : pickV (.bool true) a b = some a := rfl
theorem pickV_false {a b : Value} : pickV (.bool false) a b = some b := rfl
theorem loadV_ptr {t : TypeId} {b o : Nat} {σ : AHeap} : loadV P t (.pointer (some ⟨b, o, none⟩)) σ = withH σ (ldVar P t σ b o) := by rw [← withH_map]; rfl
theorem callV_func {f : FuncId} {fst cap : Array Value} {args : List Value} {σ : AHeap} (h : enters P f = true) : callV P call (.func (.func f) fst cap) args σ = call f (fst.toList ++ args ++ cap.toList) σ := by simp only [callV, h]
theorem allocV_zero {e : TypeId} {z : Value} {σ : AHeap} (h : zeroOf P e = some z) : allocV P e σ = some (ptr σ.next 0, (newCells σ e z.cells.toList).2) := by simp only [allocV, h]
def buildSliceV (P : Program) (t : TypeId) (len : Nat) (parts : List (Nat × Value)) (σ : AHeap) : Option (Value × AHeap) := match P.underlying t with
  | some (.slice elem) => match elemOk P elem with
    | some (size, z) => match (len * size).ble 1048576 with
      | true => match fill' (fun i => some (i * size, size)) (zerosN z len) parts with
        | some cs => some (.slice (some ⟨σ.next, 0, none⟩) len len, (newCells σ elem cs).2)
        | none => none
      | false => none
    | none => none
  | _ => none
theorem aop_buildSlice {d : Option Tmp} {ty : TypeId} {pos : String} {af : Array Edge} {g : Option (Nat × Bool)} {fr : AFr} {σ : AHeap} {len : Nat} {ps : Array (Nat × Operand)} : aop P call ⟨d, .buildSlice t len ps, ty, pos, af, g⟩ fr σ = buildSliceV P t len (ps.toList.map fun (i, x) => (i, fr.eval x)) σ := by
  simp only [aop, buildSliceV]
  cases P.underlying t with
  | none => rfl
  | some u =>
    cases u with
    | slice e =>
      simp only
      cases elemOk P e with
      | none => rfl
      | some p =>
        obtain ⟨size, z⟩ := p
        simp only
        cases (len * size).ble 1048576 with
        | false => rfl
        | true =>
          simp only
          cases fill' (fun i => some (i * size, size)) (zerosN z len) (List.map (fun x => (x.fst, fr.eval x.snd)) ps.toList) <;> rfl
    | _ => rfl
theorem resOne_tmp {fr : AFr} {σ : AHeap} {t : Nat} : resOne P fr σ (.tmp t) = some (fr.at_ t) := rfl
theorem rs_tmp {fn : Func} {fr : AFr} {σ : AHeap} {t : Nat} (h : fn.results = #[.tmp t]) : results' P fn fr σ = some (fr.at_ t) := by
  unfold results'
  rw [h]
  rfl
theorem rs_two {fn : Func} {fr : AFr} {σ : AHeap} {t u : Nat} (h : fn.results = #[.tmp t, .tmp u]) : results' P fn fr σ = some (.tuple #[fr.at_ t, fr.at_ u]) := by
  unfold results'
  rw [h]
  rfl
end
end Go.AE
namespace Go.AE
variable {P : Program} {call : CallF} {n : Nat} {gs : List Nat} {orc : Orc}
/-! A loop unrolled. -/
def KLoop (P : Program) (call : CallF) (n : Nat) (body : Code) (m : Nat) (Q : AExit × AFr × AHeap → Prop) : AExit × AFr × AHeap → Prop
  | (.normal, fr, σ) => W (loopN (exec P call n body) m fr σ) Q
  | r => Q r
theorem W_loopN {body : Code} {m : Nat} {fr : AFr} {σ : AHeap} {Q} : W (loopN (exec P call n body) (m + 1) fr σ) Q = W (exec P call n body fr σ) (KLoop P call n body m Q) := by
  rw [loopN]
  cases h : exec P call n body fr σ with
  | none => simp
  | some r => obtain ⟨e, f, s⟩ := r; cases e <;> simp [KLoop]
theorem KLoop_normal {body : Code} {m : Nat} {fr : AFr} {σ : AHeap} {Q} : KLoop P call n body m Q (.normal, fr, σ) = W (loopN (exec P call n body) m fr σ) Q := rfl
theorem KLoop_exit {body : Code} {m i : Nat} {fr : AFr} {σ : AHeap} {Q} : KLoop P call n body m Q (.exit i, fr, σ) = Q (.exit i, fr, σ) := rfl
theorem KLoop_ret {body : Code} {m : Nat} {fr : AFr} {σ : AHeap} {Q} : KLoop P call n body m Q (.ret, fr, σ) = Q (.ret, fr, σ) := rfl
theorem idx_cast {k : IntKind} {i len : Nat} : idx (.int k (i : Int)) len = if i < len then some i else none := rfl
theorem len_slice {t e : TypeId} {a : Option Addr} {m c : Nat} {σ : AHeap} (h : P.underlying t = some (.slice e)) : builtin' P .len #[t] [.slice a m c] σ = some (.int .i64 (m : Int), σ) := by
  have h0 : (#[t] : Array TypeId)[0]? = some t := rfl
  simp only [builtin', h0, Option.bind_some, h]; rfl
theorem idx_zero {k : IntKind} {len : Nat} : idx (.int k 0) len = if 0 < len then some 0 else none := rfl
theorem idx_one {k : IntKind} {len : Nat} : idx (.int k 1) len = if 1 < len then some 1 else none := rfl
theorem wrap64 {x : Int} (h : -9223372036854775808 ≤ x) (h2 : x ≤ 9223372036854775807) : IntKind.i64.wrap x = x := by
  simp [IntKind.wrap, IntKind.bits, IntKind.signed]; omega
theorem wrap64_1 : IntKind.i64.wrap (0 + 1) = 1 := by decide
theorem wrap64_2 : IntKind.i64.wrap (1 + 1) = 2 := by decide
theorem buildSlice_of {t e size len : TypeId} {z cs : List Value} {parts : List (Nat × Value)} {σ : AHeap} (ht : P.underlying t = some (.slice e)) (he : elemOk P e = some (size, z)) (hl : (len * size).ble 1048576 = true) (hf : fill' (fun i => some (i * size, size)) (zerosN z len) parts = some cs) :
    buildSliceV P t len parts σ = some (.slice (some ⟨σ.next, 0, none⟩) len len, (newCells σ e cs).2) := by
  simp only [buildSliceV, ht, he, hl, hf]
end Go.AE
namespace Go.AE
variable {P : Program} {call : CallF} {n : Nat}
theorem retold_nil {ops : List Oper} {tr : List (AFr × AHeap × Value)} {fin : AHeap} : retold P call ops tr fin [] = true := rfl
def RetAt (P : Program) (call : CallF) (ops : List Oper) (o : Option Oper) (a b c : Option (AFr × AHeap × Value)) (fin : AHeap) : Prop := match o, a, b with
  | some o, some (fr, _, v), some (_, σu, _) => wanted' ops fr o = true → retells P call o fr v σu = true ∧ retells P call o fr v (match c with | some (_, σ, _) => σ | none => fin) = true
  | _, _, _ => False
theorem retold_cons {ops : List Oper} {tr : List (AFr × AHeap × Value)} {fin : AHeap} {u i : Nat} {rest : List (Nat × Nat)} : (retold P call ops tr fin ((u, i) :: rest) = true) = (RetAt P call ops ops[i]? tr[i]? tr[u]? tr[u + 1]? fin ∧ retold P call ops tr fin rest = true) := by
  rw [retold, Bool.and_eq_true]
  congr 1
  unfold RetAt
  apply propext
  cases ops[i]? with
  | none => simp
  | some o =>
    cases tr[i]? with
    | none => simp
    | some a =>
      obtain ⟨fr, s, v⟩ := a
      cases tr[u]? with
      | none => simp
      | some b =>
        obtain ⟨f2, σu, v2⟩ := b
        simp only
        cases wanted' ops fr o <;> cases tr[u + 1]? <;> simp
theorem RetAt_mk {ops : List Oper} {d : Option Tmp} {op : Op} {ty : TypeId} {pos : String} {af : Array Edge} {fr f2 f3 : AFr} {s σu σ' fin : AHeap} {v v2 v3 : Value} :
    RetAt P call ops (some ⟨d, op, ty, pos, af, none⟩) (some (fr, s, v)) (some (f2, σu, v2)) (some (f3, σ', v3)) fin = (retells P call ⟨d, op, ty, pos, af, none⟩ fr v σu = true ∧ retells P call ⟨d, op, ty, pos, af, none⟩ fr v σ' = true) := by
  simp [RetAt, wanted']
theorem RetAt_last {ops : List Oper} {d : Option Tmp} {op : Op} {ty : TypeId} {pos : String} {af : Array Edge} {fr f2 : AFr} {s σu fin : AHeap} {v v2 : Value} :
    RetAt P call ops (some ⟨d, op, ty, pos, af, none⟩) (some (fr, s, v)) (some (f2, σu, v2)) none fin = (retells P call ⟨d, op, ty, pos, af, none⟩ fr v σu = true ∧ retells P call ⟨d, op, ty, pos, af, none⟩ fr v fin = true) := by
  simp [RetAt, wanted']
theorem retells_eq {o : Oper} {fr : AFr} {v : Value} {σ : AHeap} : (retells P call o fr v σ = true) = W (aop P call o fr σ) fun r => sameV 6 r.1 v = true := by
  unfold retells
  cases aop P call o fr σ with
  | none => simp
  | some r => simp
theorem sameV_int {k : IntKind} {a : Int} : sameV 6 (.int k a) (.int k a) = true := by simp [sameV]
theorem sameV_string {s : ByteArray} : sameV 6 (.string s) (.string s) = true := by simp [sameV]
theorem sameV_bool {b : Bool} : sameV 6 (.bool b) (.bool b) = true := by simp [sameV]
theorem sameV_ptr {a : Option Addr} : sameV 6 (.pointer a) (.pointer a) = true := by simp [sameV]
theorem sameV_map {a : Option Nat} : sameV 6 (.map a) (.map a) = true := by simp [sameV]
theorem sameV_slice {a : Option Addr} {n c : Nat} : sameV 6 (.slice a n c) (.slice a n c) = true := by simp [sameV]
end Go.AE
namespace Go.AE
variable {P : Program} {call : CallF} {n : Nat}
theorem bin_nils {t e : TypeId} {x y : Operand} {a : Addr} {m c : Nat} (h : P.underlying t = some (.slice e)) : bin P .eql t x y (.slice (some a) m c) (.slice none 0 0) = some (.bool false) := by simp [bin, isEq, eqV, h]
theorem bin_nilss {t e : TypeId} {x y : Operand} (h : P.underlying t = some (.slice e)) : bin P .eql t x y (.slice none 0 0) (.slice none 0 0) = some (.bool true) := by simp [bin, isEq, eqV, h]
end Go.AE
end
/- Maps of several entries: 'next' in whatever order. Code from an abstract state, with whatever outcome a relation allows. -/
section
set_option linter.all false
namespace Go.AE
open Go.RowKit
variable {D : Prop} {P : Program}

/-- What 'next' may answer over a map none of whose entries is younger than the loop. -/
theorem next_any {ρ : Ren} {σ : AHeap} {w : World} {r mm since last clock : Nat} {seen : List Nat} {es : List MapEntry} {ro : Bool} {it' : Value} {ty : TypeId} (hg : σ.get r = some (.mapIter (some mm) since seen last)) (hgm : σ.get mm = some (.map es clock ro)) (hold : ∀ e ∈ es, e.born < since) (hsc : since ≤ last)
    (hR : Rel P ρ σ w) (hi : VR P ρ (.pointer (some ⟨r, 0, none⟩)) it') :
    ((∀ e ∈ es, e.born ∈ seen) ∧ OutV D P ρ σ w (.tuple #[.bool false]) σ ((Instr.next it' false ty).run P w)) ∨
    ∃ e ∈ es, e.born ∉ seen ∧ OutV D P ρ σ w (.tuple #[.bool true, e.key, e.val]) (σ.set r (.mapIter (some mm) since (seen ++ [e.born]) clock)) ((Instr.next it' false ty).run P w) := by
  obtain ⟨m, hm, _, rfl⟩ := hi.ptr_inv
  simp only at hm
  obtain ⟨m2, hm2, hsh, r', hh, hv⟩ := hR.obj r _ hg
  rw [hm] at hm2; cases hm2
  rw [hsh]
  obtain ⟨mi, hmi, hr'⟩ := hv.map_inv
  cases hr'
  obtain ⟨m3, hm3, _, es', hhm, hl⟩ := hR.obj mm _ hgm
  rw [hmi] at hm3; cases hm3
  have back : ∀ e' ∈ es'.toList, ∃ e ∈ es, ER P ρ e e' := fun e' he' => by
    obtain ⟨i, hi, he⟩ := List.getElem_of_mem he'
    have hil : i < es.length := by rw [hl.len]; exact hi
    exact ⟨es[i], List.getElem_mem _, hl.at_ i _ _ (List.getElem?_eq_getElem hil) (by rw [List.getElem?_eq_getElem hi, he])⟩
  have forth : ∀ e ∈ es, ∃ e' ∈ es'.toList, ER P ρ e e' := fun e he' => by
    obtain ⟨i, hi, he⟩ := List.getElem_of_mem he'
    have hil : i < es'.toList.length := by rw [← hl.len]; exact hi
    exact ⟨es'.toList[i], List.getElem_mem _, hl.at_ i _ _ (by rw [List.getElem?_eq_getElem hi, he]) (List.getElem?_eq_getElem hil)⟩
  have hold' : ∀ x ∈ es'.toList, x.born < since := fun x hx => by
    obtain ⟨e, he, h⟩ := back x hx
    rw [h.born]; exact hold e he
  rw [Nat.zero_add]
  rcases run_next_at (P := P) w ty m.blk mi.blk since last seen.toArray es' clock hh hhm hold' hsc with ⟨h0, hrun⟩ | ⟨e', he', w1, hw1, hrun⟩
  · refine .inl ⟨fun e he => ?_, over_out hR hrun⟩
    obtain ⟨e', he', h⟩ := forth e he
    have : leftOf es' seen.toArray = #[] := Array.eq_empty_of_size_eq_zero h0
    unfold leftOf at this
    rw [Array.filter_eq_empty_iff] at this
    have := this e' (by simpa using he')
    simp at this
    rw [← h.born]; exact this
  · unfold leftOf at he'
    simp at he'
    obtain ⟨h1, h2⟩ := he'
    obtain ⟨e, he, h⟩ := back e' (by simpa using h1)
    refine .inr ⟨e, he, by rw [← h.born]; exact h2, ?_⟩
    have hR1 : Rel P ρ σ w1 ∧ Ext D ρ σ w ρ σ w1 := by
      rcases hw1 with rfl | rfl
      · exact ⟨hR, .refl _ _ _⟩
      · exact ⟨hR.drew, .drew⟩
    obtain ⟨g1, g2⟩ := hR1.1.setIt (D := D) (o2 := .mapIter (some mm) since (seen ++ [e.born]) clock) (c2 := .mapIter (some mi.blk) since (seen.toArray.push e'.born) clock) hg rfl rfl hm (fun w' hw => ⟨hsh, some mi.blk, by rw [hw, h.born]; congr 2; simp, .map hmi⟩)
    exact ⟨ρ, _, _, hrun, VR.tuple_iff (.cons (.atom rfl) (.cons h.key (.cons h.val .nil))), g1, hR1.2.trans g2⟩
/-- Code from an abstract state: whatever outcome comes is one that R allows. -/
def WA (D : Prop) (P : Program) (gs : List Nat) (c : Code) (fr : AFr) (σ : AHeap) (R : AExit → AFr → AHeap → Prop) : Prop :=
  ∀ (ρ : Ren) (a : Act) (w : World) (Q : Exit → Act → World → Prop), FR P ρ fr a.tmps → Gl gs ρ → Rel P ρ σ w → (∀ e fr' σ', R e fr' σ' → ContE D P ρ σ w a e fr' σ' Q) → c.wp P Q a w
section
variable {gs : List Nat} {call : CallF} {n : Nat} {fr : AFr} {σ : AHeap} {R R1 : AExit → AFr → AHeap → Prop} {x y : Code}
theorem ContE.then_ {ρ ρ1 : Ren} {σ1 : AHeap} {w w1 : World} {a a1 : Act} {e : AExit} {fr' : AFr} {σ' : AHeap} {Q : Exit → Act → World → Prop} (h : ContE D P ρ σ w a e fr' σ' Q) (hd : a1.defers = a.defers) (hE : Ext D ρ σ w ρ1 σ1 w1) : ContE D P ρ1 σ1 w1 a1 e fr' σ' Q :=
  fun ρ2 a2 w2 h1 h2 h3 h4 => h ρ2 a2 w2 h1 (h2.trans hd) h3 (hE.trans h4)
theorem WA.mono {c : Code} (h : WA D P gs c fr σ R1) (hi : ∀ e fr' σ', R1 e fr' σ' → R e fr' σ') : WA D P gs c fr σ R := fun ρ a w Q hF hG hR hK => h ρ a w Q hF hG hR fun e fr' σ' q => hK e fr' σ' (hi e fr' σ' q)
theorem WA_exec {c : Code} (hmix : P.follows .mixedOrders = true) (hcall : CallS D P gs call) (hok : codeOk gs c = true) (h : W (exec P call n c fr σ) fun r => R r.1 r.2.1 r.2.2) : WA D P gs c fr σ R := by
  obtain ⟨⟨e, fr', σ'⟩, hx, hr⟩ := h
  exact fun ρ a w Q hF hG hR hK => exec_sound hmix hcall n c fr σ e fr' σ' hok hx ρ a w Q hF hG hR (hK e fr' σ' hr)
theorem WA_seq (hx : WA D P gs x fr σ R1) (hy : ∀ fr' σ', R1 .normal fr' σ' → WA D P gs y fr' σ' R) (he : ∀ e fr' σ', e ≠ .normal → R1 e fr' σ' → R e fr' σ') : WA D P gs (.seq x y) fr σ R := fun ρ a w Q hF hG hR hK => by
  refine wp_seq (hx ρ a w _ hF hG hR fun e fr' σ' hr => ?_)
  intro ρ1 a1 w1 hF1 hd1 hR1 hE1
  cases e with
  | normal => exact hy fr' σ' hr ρ1 a1 w1 Q hF1 (hG.mono hE1.ren) hR1 fun e2 fr2 σ2 h2 => (hK e2 fr2 σ2 h2).then_ hd1 hE1
  | exit id => exact hK _ _ _ (he _ _ _ (by simp) hr) ρ1 a1 w1 hF1 hd1 hR1 hE1
  | ret => exact hK _ _ _ (he _ _ _ (by simp) hr) ρ1 a1 w1 hF1 hd1 hR1 hE1
theorem WA_block {id : Nat} (hx : WA D P gs x fr σ fun e fr' σ' => match e with | .exit id' => if id' = id then R .normal fr' σ' else R (.exit id') fr' σ' | .normal => R .normal fr' σ' | .ret => R .ret fr' σ') : WA D P gs (.block id x) fr σ R := fun ρ a w Q hF hG hR hK => by
  refine wp_block (hx ρ a w _ hF hG hR fun e fr' σ' hr => ?_)
  intro ρ1 a1 w1 hF1 hd1 hR1 hE1
  cases e with
  | normal => exact hK _ _ _ hr ρ1 a1 w1 hF1 hd1 hR1 hE1
  | ret => exact hK _ _ _ hr ρ1 a1 w1 hF1 hd1 hR1 hE1
  | exit id' =>
    by_cases q : id' = id
    · simp only [if_pos q] at hr
      simp only [AExit.up, Exit.inBlock, q, if_true]
      exact hK _ _ _ hr ρ1 a1 w1 hF1 hd1 hR1 hE1
    · simp only [if_neg q] at hr
      simp only [AExit.up, Exit.inBlock, q, if_false]
      exact hK _ _ _ hr ρ1 a1 w1 hF1 hd1 hR1 hE1
theorem WA_loop (I : Nat → AFr → AHeap → Prop) (hx : ∀ k fr σ, I k fr σ → WA D P gs x fr σ fun e fr' σ' => match e with | .normal => ∃ k', k' < k ∧ I k' fr' σ' | .exit id => R (.exit id) fr' σ' | .ret => R .ret fr' σ') (k : Nat) (h0 : I k fr σ) : WA D P gs (.loop x) fr σ R := fun ρ a w Q hF hG hR hK => by
  refine wp_loop_rounds (k + 1) ?_
  have key : ∀ (m k : Nat) (fr : AFr) (σ : AHeap) (ρ : Ren) (a : Act) (w : World), k < m → I k fr σ → FR P ρ fr a.tmps → Gl gs ρ → Rel P ρ σ w → (∀ e fr' σ', R e fr' σ' → ContE D P ρ σ w a e fr' σ' Q) → Code.rounds P x Q m a w := by
    intro m
    induction m with
    | zero => intro k fr σ ρ a w h; omega
    | succ m ihm =>
      intro k fr σ ρ a w hkm hI hF hG hR hK
      rw [rounds_succ]
      refine hx k fr σ hI ρ a w _ hF hG hR fun e fr' σ' hr => ?_
      intro ρ1 a1 w1 hF1 hd1 hR1 hE1
      cases e with
      | normal =>
        obtain ⟨k', hk', hI'⟩ := hr
        exact ihm k' fr' σ' ρ1 a1 w1 (by omega) hI' hF1 (hG.mono hE1.ren) hR1 fun e2 fr2 σ2 h2 => (hK e2 fr2 σ2 h2).then_ hd1 hE1
      | exit id => exact hK _ _ _ hr ρ1 a1 w1 hF1 hd1 hR1 hE1
      | ret => exact hK _ _ _ hr ρ1 a1 w1 hF1 hd1 hR1 hE1
  exact key (k + 1) k fr σ ρ a w (by omega) h0 hF hG hR hK
/-- A region whose first operation asks for a map's next entry. -/
theorem WA_next {id : Nat} {ops : Array Oper} {d : Option Tmp} {it : Operand} {ty : TypeId} {pos : String} {af : Array Edge} {rest : List Oper} {r mm since last clock : Nat} {seen : List Nat} {es : List MapEntry} {ro : Bool} (hcall : CallS D P gs call)
    (hops : ops.toList = ⟨d, .next it false, ty, pos, af, none⟩ :: rest) (hok : ∀ o ∈ ops.toList, operOk gs o = true) (hi : fr.eval it = .pointer (some ⟨r, 0, none⟩)) (hg : σ.get r = some (.mapIter (some mm) since seen last)) (hgm : σ.get mm = some (.map es clock ro)) (hold : ∀ e ∈ es, e.born < since) (hsc : since ≤ last)
    (hend : (∀ e ∈ es, e.born ∈ seen) → W (runOps P call ops.toList rest (fr.put d (.tuple #[.bool false])) σ) fun x => R .normal x.1 x.2)
    (hstep : ∀ e ∈ es, e.born ∉ seen → W (runOps P call ops.toList rest (fr.put d (.tuple #[.bool true, e.key, e.val])) (σ.set r (.mapIter (some mm) since (seen ++ [e.born]) clock))) fun x => R .normal x.1 x.2) :
    WA D P gs (.region id ops false) fr σ R := fun ρ a w Q hF hG hR hK => by
  refine wp_region_list ?_
  have go : ∀ (v : Value) (σ1 : AHeap), OutV D P ρ σ w v σ1 ((Instr.next (a.eval it) false ty).run P w) → W (runOps P call ops.toList rest (fr.put d v) σ1) (fun x => R .normal x.1 x.2) → wpList P ops Q ops.toList a w := fun v σ1 ho hr => by
    obtain ⟨⟨fr', σ'⟩, hx, hrr⟩ := hr
    have hw := wanted_sound (P := P) (ρ := ρ) (ops := ops.toList) (fr := fr) (a := a) (o := ⟨d, .next it false, ty, pos, af, none⟩) (fun g want o2 t _ _ _ => hF.at_ t)
    have hok1 : ∀ o ∈ rest, operOk gs o = true := fun o ho => hok o (by rw [hops]; simp [ho])
    conv => arg 4; rw [hops]
    unfold wpList
    rw [show ops.toList.toArray = ops by simp] at hw
    rw [hw, show wanted' ops.toList fr ⟨d, .next it false, ty, pos, af, none⟩ = true from rfl]
    simp only [if_true]
    refine .inl (Out.wp (D := D) (ρ := ρ) (σ := σ) (v := v) (σ' := σ1) ho.out fun ρ' v' w' hv hR' hE => ?_)
    have hK' := hK .normal fr' σ' hrr
    have := runOps_sound (D := D) hcall (ops := ops.toList) (Q := Q) rest _ _ _ _ hok1 hx ρ' _ w' ((hF.mono hE.ren).put d hv) (hG.mono hE.ren) hR'
      (fun ρ2 a2 w2 h1 h2 h3 h4 => hK' ρ2 a2 w2 h1 (h2.trans (put_defers _ _ _)) h3 (hE.trans h4))
    simpa using this
  have he : VR P ρ (.pointer (some ⟨r, 0, none⟩)) (a.eval it) := by
    rw [← hi]
    exact evals_ok (hok ⟨d, .next it false, ty, pos, af, none⟩ (by rw [hops]; simp)) hG hF it (by simp [Op.operands])
  rcases next_any (D := D) (ty := ty) hg hgm hold hsc hR he with ⟨h1, ho⟩ | ⟨e, h1, h2, ho⟩
  · exact go _ _ ho (hend h1)
  · exact go _ _ ho (hstep e h1 h2)
/-- A function without arguments whose code, whatever it meets, answers true. -/
theorem calls_of_WA {f : FuncId} {fn : Func} {c : Code} {ρ : Ren} {w : World} (hf : P.funcs[f]? = some fn) (hb : fn.body = some c) (hG : Gl gs ρ) (hR : Rel P ρ σ w) (hro : ∀ b o, σ.get b = some o → o.ro = true)
    (h : WA D P gs c ⟨fn.ntmps, .leaf⟩ σ fun e fr' σ' => (e = .normal ∨ e = .ret) ∧ results' P fn fr' σ' = some (.bool true)) : Calls P f #[] w fun e w' => e = .returned (.bool true) ∧ Below w.heap.size w w' := by
  have hF : FR P ρ ⟨fn.ntmps, .leaf⟩ (#[] ++ Array.replicate (fn.ntmps - (#[] : Array Value).size) undef) := by
    refine ⟨by simp, fun t => ?_⟩
    have e1 : (⟨fn.ntmps, .leaf⟩ : AFr).at_ t = undef := by simp [AFr.at_, Tr.get]
    have e2 : (#[] ++ Array.replicate (fn.ntmps - (#[] : Array Value).size) undef).getD t undef = undef := by
      rw [Array.getD_eq_getD_getElem?]
      simp only [Array.empty_append, Array.getElem?_replicate]
      split <;> rfl
    rw [e1, e2]
    exact .undef
  refine calls_of_wp hf hb (h ρ _ w _ hF hG hR fun e fr' σ' ⟨he, hr⟩ => ?_)
  intro ρ' a' w' hF' hd' hR' hE'
  obtain ⟨v', h1, h2⟩ := results_sound hR' hF' hr
  have hb2 := h2.bool_inv
  subst hb2
  have : a'.defers = [] ∧ ∃ v, (results fn a'.tmps).run P w' = .ok v w' ∧ (Ending.returned v = .returned (.bool true) ∧ Below w.heap.size w w') := ⟨hd', _, h1, rfl, hE'.os, hE'.tape, hE'.output, hE'.size, fun k hk => hE'.frame k hk fun ⟨b, o, m, hg, hr, _⟩ => by rw [hro b o hg] at hr; cases hr⟩
  rcases he with rfl | rfl <;> exact this
end
end Go.AE
end
/- Rows, slices and maps that hold known things, as the evaluator sees them. -/
section
set_option linter.all false
namespace Go.AE
variable {P : Program}

/-! What a piece leaves alone. -/
structure Same (σ σ' : AHeap) (F : List Nat) : Prop where
  next : σ.next ≤ σ'.next
  get : ∀ b, b < σ.next → b ∉ F → σ'.get b = σ.get b
theorem Same.refl (σ : AHeap) (F : List Nat) : Same σ σ F := ⟨Nat.le_refl _, fun _ _ _ => rfl⟩
theorem Same.trans {σ1 σ2 σ3 : AHeap} {F G : List Nat} (h : Same σ1 σ2 F) (k : Same σ2 σ3 G) (hG : ∀ b ∈ G, b ∈ F ∨ σ1.next ≤ b) : Same σ1 σ3 F :=
  ⟨Nat.le_trans h.next k.next, fun b hb hF => by
    rw [k.get b (Nat.lt_of_lt_of_le hb h.next) fun hm => by rcases hG b hm with q | q; exact hF q; omega]
    exact h.get b hb hF⟩
theorem Same.mono {σ1 σ2 : AHeap} {F G : List Nat} (h : Same σ1 σ2 F) (hF : ∀ b ∈ F, b ∈ G) : Same σ1 σ2 G := ⟨h.next, fun b hb hn => h.get b hb fun q => hn (hF b q)⟩
theorem Same.new (σ : AHeap) (o : AObj) : Same σ (σ.new o).2 [] := ⟨by simp, fun b hb _ => by rw [AHeap.get_new, if_neg (by omega)]⟩
theorem Same.set (σ : AHeap) (b : Nat) (o : AObj) : Same σ (σ.set b o) [b] := ⟨by simp, fun c _ hn => by rw [AHeap.get_set, if_neg (by simpa using hn)]⟩
theorem Same.drop (σ : AHeap) (b : Nat) : Same σ (σ.drop b) [b] := ⟨by simp, fun c _ hn => by rw [AHeap.get_drop, if_neg (by simpa using hn)]⟩
theorem newCells_eq (σ : AHeap) (e : TypeId) (vs : List Value) (g : Bool) : newCells σ e vs g = (σ.next, (σ.new (.cells vs.length (Tr.ofList vs 0 .leaf) e g false)).2) := rfl
theorem get_newCells (σ : AHeap) (e : TypeId) (vs : List Value) (g : Bool) (b : Nat) : (newCells σ e vs g).2.get b = if b = σ.next then some (.cells vs.length (Tr.ofList vs 0 .leaf) e g false) else σ.get b := AHeap.get_new _ _ _
theorem next_newCells (σ : AHeap) (e : TypeId) (vs : List Value) (g : Bool) : (newCells σ e vs g).2.next = σ.next + 1 := rfl
theorem Same.newCells (σ : AHeap) (e : TypeId) (vs : List Value) (g : Bool) : Same σ (newCells σ e vs g).2 [] := .new _ _

/-! Rows of things of k cells each. -/
section
variable {α : Type} {k : Nat} {enc : α → List Value}
structure Enc (k : Nat) (enc : α → List Value) : Prop where
  len : ∀ x, (enc x).length = k
  single : ∀ x, ∀ v ∈ enc x, single v = true
  pos : 0 < k
def CellsAt (k : Nat) (enc : α → List Value) (c : Tr Value) (o : Nat) (A : List α) (cap : Nat) : Prop :=
  (∀ i x, A[i]? = some x → ∀ j v, (enc x)[j]? = some v → c.get (o + i * k + j) = some v) ∧ ∀ i, i < cap * k → (c.get (o + i)).isSome
def ArrAt (σ : AHeap) (b : Nat) (e : TypeId) (g : Bool) (k : Nat) (enc : α → List Value) (o : Nat) (A : List α) (cap : Nat) : Prop :=
  ∃ n c, σ.get b = some (.cells n c e g false) ∧ CellsAt k enc c o A cap
theorem ArrAt.of_get {σ σ' : AHeap} {b : Nat} {e : TypeId} {g : Bool} {o cap : Nat} {A : List α} (h : ArrAt σ b e g k enc o A cap) (hg : σ'.get b = σ.get b) : ArrAt σ' b e g k enc o A cap := by
  obtain ⟨n, c, h1, h2⟩ := h; exact ⟨n, c, by rw [hg, h1], h2⟩
theorem ArrAt.ld {σ : AHeap} {b : Nat} {e : TypeId} {g : Bool} {o cap : Nat} {A : List α} (h : ArrAt σ b e g k enc o A cap) {i j : Nat} {x : α} {v : Value} (hi : A[i]? = some x) (hj : (enc x)[j]? = some v) : ld σ b (o + i * k + j) = some v := by
  obtain ⟨n, c, h1, h2⟩ := h
  simp only [AE.ld, h1]
  exact h2.1 i x hi j v hj
theorem ldN_of {c : Tr Value} : ∀ (vs : List Value) (off : Nat), (∀ j v, vs[j]? = some v → c.get (off + j) = some v) → ldN c off vs.length = some vs
  | [], _, _ => rfl
  | v :: vs, off, h => by
    rw [List.length_cons, ldN, show c.get off = some v from h 0 v rfl]
    simp only
    rw [ldN_of vs (off + 1) fun j u hj => by have := h (j + 1) u (by simpa using hj); rwa [show off + (j + 1) = off + 1 + j by omega] at this]
theorem ArrAt.ldCells {σ : AHeap} {b : Nat} {e : TypeId} {g : Bool} {o cap : Nat} {A : List α} (hE : Enc k enc) (h : ArrAt σ b e g k enc o A cap) {i : Nat} {x : α} (hi : A[i]? = some x) : ldCells σ b (o + i * k) k = some (enc x) := by
  obtain ⟨n, c, h1, h2⟩ := h
  have hk := hE.pos
  unfold AE.ldCells
  split
  · omega
  · simp only [h1]
    have := ldN_of (c := c) (enc x) (o + i * k) fun j v hj => h2.1 i x hi j v hj
    rwa [hE.len x] at this
theorem flat_get (hE : Enc k enc) : ∀ (A : List α) (i : Nat) (x : α) (j : Nat) (v : Value), A[i]? = some x → (enc x)[j]? = some v → (A.flatMap enc)[i * k + j]? = some v
  | [], i, x, j, v, h, _ => by simp at h
  | a :: A, i, x, j, v, h, hj => by
    rw [List.flatMap_cons]
    cases i with
    | zero =>
      simp at h
      subst h
      have : j < (enc a).length := (List.getElem?_eq_some_iff.1 hj).1
      rw [List.getElem?_append_left (by omega)]
      simpa using hj
    | succ i =>
      rw [List.getElem?_append_right (by rw [hE.len]; rw [Nat.add_mul]; omega), hE.len, show (i + 1) * k + j - k = i * k + j by rw [Nat.add_mul]; omega]
      exact flat_get hE A i x j v (by simpa using h) hj
theorem flat_len (hE : Enc k enc) : ∀ A : List α, (A.flatMap enc).length = A.length * k
  | [] => by simp
  | a :: A => by rw [List.flatMap_cons, List.length_append, hE.len, flat_len hE A, List.length_cons, Nat.add_mul]; omega
theorem flat_of (hE : Enc k enc) : ∀ (A : List α) (q : Nat) (v : Value), (A.flatMap enc)[q]? = some v → ∃ i x j, q = i * k + j ∧ A[i]? = some x ∧ (enc x)[j]? = some v
  | [], q, v, h => by simp at h
  | a :: A, q, v, h => by
    rw [List.flatMap_cons] at h
    by_cases hq : q < (enc a).length
    · rw [List.getElem?_append_left hq] at h
      exact ⟨0, a, q, by omega, rfl, h⟩
    · rw [List.getElem?_append_right (by omega)] at h
      obtain ⟨i, x, j, e, h1, h2⟩ := flat_of hE A _ v h
      refine ⟨i + 1, x, j, ?_, by simpa using h1, h2⟩
      rw [hE.len] at e hq
      rw [Nat.add_mul]
      omega
theorem ArrAt.all {σ : AHeap} {b : Nat} {e : TypeId} {g : Bool} {o cap : Nat} {A : List α} (hE : Enc k enc) (h : ArrAt σ b e g k enc o A cap) : AE.ldCells σ b o (A.length * k) = some (A.flatMap enc) := by
  obtain ⟨n, c, h1, h2⟩ := h
  unfold AE.ldCells
  split
  · rename_i q
    have := hE.pos
    have : A.length = 0 := by rcases Nat.mul_eq_zero.1 q with q | q <;> omega
    rw [List.eq_nil_of_length_eq_zero this]; rfl
  · simp only [h1]
    have := ldN_of (c := c) (A.flatMap enc) o fun q v hq => by
      obtain ⟨i, x, j, e, h3, h4⟩ := flat_of hE A q v hq
      subst e
      have := h2.1 i x h3 j v h4
      rwa [Nat.add_assoc] at this
    rwa [flat_len hE] at this
theorem ArrAt.new (hE : Enc k enc) (σ : AHeap) (e : TypeId) (g : Bool) (A : List α) : ArrAt (newCells σ e (A.flatMap enc) g).2 σ.next e g k enc 0 A A.length := by
  refine ⟨_, _, by rw [get_newCells, if_pos rfl], fun i x hi j v hj => ?_, fun i hi => ?_⟩
  · rw [Tr.get_of, Nat.zero_add]; exact flat_get hE A i x j v hi hj
  · rw [Tr.get_of, Nat.zero_add]
    have : i < (A.flatMap enc).length := by rw [flat_len hE]; exact hi
    rw [List.getElem?_eq_getElem this]; rfl
theorem ArrAt.take {σ : AHeap} {b : Nat} {e : TypeId} {g : Bool} {o cap : Nat} {A : List α} (h : ArrAt σ b e g k enc o A cap) (m : Nat) : ArrAt σ b e g k enc o (A.take m) cap := by
  obtain ⟨n, c, h1, h2, h3⟩ := h
  refine ⟨n, c, h1, fun i x hi => h2 i x ?_, h3⟩
  rw [List.getElem?_take] at hi
  split at hi
  · exact hi
  · cases hi
theorem stN_of {c : Tr Value} : ∀ (vs : List Value) (c : Tr Value) (off : Nat), (∀ v ∈ vs, single v = true) → (∀ j, j < vs.length → (c.get (off + j)).isSome) → ∃ c', stN c off vs = some c' ∧ ∀ i, c'.get i = if off ≤ i ∧ i < off + vs.length then vs[i - off]? else c.get i
  | [], c, off, _, _ => ⟨c, rfl, fun i => by simp; intro h1 h2; omega⟩
  | v :: vs, c, off, hs, hj => by
    have h0 := hj 0 (by simp)
    rw [Nat.add_zero] at h0
    obtain ⟨u, hu⟩ := Option.isSome_iff_exists.1 h0
    obtain ⟨c', h1, _⟩ := stN_of (c := c) vs (c.put off (some v)) (off + 1) (fun x hx => hs x (by simp [hx])) fun j hlt => by
      rw [Tr.get_put, if_neg (by omega), show off + 1 + j = off + (j + 1) by omega]
      exact hj (j + 1) (by simpa using hlt)
    have e : stN c off (v :: vs) = some c' := by rw [stN, hs v (by simp), hu]; exact h1
    exact ⟨c', e, (stN_spec _ _ _ _ e).2.2⟩
/-- A thing stored. -/
theorem ArrAt.put {σ : AHeap} {b : Nat} {e : TypeId} {g : Bool} {o cap : Nat} {A : List α} (hE : Enc k enc) (h : ArrAt σ b e g k enc o A cap) {i : Nat} (hi : i < cap) (y : α) :
    ∃ o', AE.stCells σ b (o + i * k) (enc y) = some (σ.set b o') ∧ (i < A.length → ArrAt (σ.set b o') b e g k enc o (A.set i y) cap) ∧ (i = A.length → ArrAt (σ.set b o') b e g k enc o (A ++ [y]) cap) := by
  obtain ⟨n, c, h1, h2, h3⟩ := h
  have hk := hE.pos
  have hle : i * k + k ≤ cap * k := by have := Nat.mul_le_mul_right k (show i + 1 ≤ cap from hi); rwa [Nat.add_mul, Nat.one_mul] at this
  obtain ⟨c', hc, hg⟩ := stN_of (c := c) (enc y) c (o + i * k) (hE.single y) fun j hj => by
    rw [hE.len] at hj
    have := h3 (i * k + j) (by omega)
    rwa [← Nat.add_assoc] at this
  rw [hE.len] at hg
  have new : ∀ i' j v, i' = i → (enc y)[j]? = some v → c'.get (o + i' * k + j) = some v := fun i' j v hi' hj => by
    subst hi'
    have hjl : j < k := by have := (List.getElem?_eq_some_iff.1 hj).1; rwa [hE.len] at this
    rw [hg, if_pos (by omega), show o + i' * k + j - (o + i' * k) = j by omega]
    exact hj
  have old : ∀ i' x j v, i' ≠ i → A[i']? = some x → (enc x)[j]? = some v → c'.get (o + i' * k + j) = some v := fun i' x j v hne hx hj => by
    have hjl : j < k := by have := (List.getElem?_eq_some_iff.1 hj).1; rwa [hE.len] at this
    rw [hg, if_neg]
    · exact h2 i' x hx j v hj
    · intro hh
      rcases Nat.lt_or_gt_of_ne hne with q | q
      · have := Nat.mul_le_mul_right k (show i' + 1 ≤ i from q); rw [Nat.add_mul, Nat.one_mul] at this; omega
      · have := Nat.mul_le_mul_right k (show i + 1 ≤ i' from q); rw [Nat.add_mul, Nat.one_mul] at this; omega
  have some' : ∀ q, q < cap * k → (c'.get (o + q)).isSome := fun q hq => by
    rw [hg]
    split
    · rename_i hh
      rw [List.getElem?_eq_getElem (by rw [hE.len]; omega)]; rfl
    · exact h3 q hq
  refine ⟨.cells n c' e g false, ?_, fun hlt => ⟨n, c', by simp, ?_, some'⟩, fun heq => ⟨n, c', by simp, ?_, some'⟩⟩
  · unfold AE.stCells
    split
    · rename_i q; have := hE.len y; rw [q] at this; simp at this; omega
    · simp only [h1, hc]
  · intro i' x hx j v hj
    by_cases q : i' = i
    · subst q
      rw [List.getElem?_set_self hlt] at hx
      cases hx
      exact new _ j v rfl hj
    · rw [List.getElem?_set_ne (fun h => q h.symm)] at hx
      exact old i' x j v q hx hj
  · intro i' x hx j v hj
    by_cases q : i' = i
    · subst q heq
      simp at hx
      subst hx
      exact new _ j v rfl hj
    · rw [List.getElem?_append] at hx
      split at hx
      · exact old i' x j v q hx hj
      · rename_i hl
        have : i' - A.length = 0 := by
          have := (List.getElem?_eq_some_iff.1 hx).1
          simp at this; omega
        omega
end
end Go.AE
namespace Go.AE
variable {P : Program}
theorem next_new (σ : AHeap) (o : AObj) : (σ.new o).2.next = σ.next + 1 := rfl
end Go.AE
namespace Go.AE
variable {P : Program}
end Go.AE
end
/- Slices and maps of strings that hold known things, as the evaluator sees them. -/
section
set_option linter.all false
namespace Go.AE
variable {P : Program}

section
variable {α : Type} {k : Nat} {enc : α → List Value}
/-- Things stored behind those that are there, into the row's own room. -/
theorem ArrAt.puts {σ : AHeap} {b : Nat} {e : TypeId} {g : Bool} {o cap : Nat} {A : List α} (hE : Enc k enc) (h : ArrAt σ b e g k enc o A cap) (B : List α) (hB : A.length + B.length ≤ cap) :
    ∃ σ', AE.stCells σ b (o + A.length * k) (B.flatMap enc) = some σ' ∧ σ'.next = σ.next ∧ (∀ c, c ≠ b → σ'.get c = σ.get c) ∧ ArrAt σ' b e g k enc o (A ++ B) cap := by
  obtain ⟨n, c, h1, h2, h3⟩ := h
  have hle : A.length * k + B.length * k ≤ cap * k := by have := Nat.mul_le_mul_right k hB; rwa [Nat.add_mul] at this
  by_cases hn : B.flatMap enc = []
  · have : B = [] := by
      cases B with
      | nil => rfl
      | cons y r =>
        have h5 := flat_len hE (y :: r)
        rw [hn] at h5
        have := hE.pos
        rcases Nat.mul_eq_zero.1 h5.symm with q | q
        · simp at q
        · omega
    subst this
    exact ⟨σ, by simp [AE.stCells], rfl, fun _ _ => rfl, by rw [List.append_nil]; exact ⟨n, c, h1, h2, h3⟩⟩
  · obtain ⟨c', hc, hg⟩ := stN_of (c := c) (B.flatMap enc) c (o + A.length * k) (fun v hv => by obtain ⟨x, _, hx⟩ := List.mem_flatMap.1 hv; exact hE.single x v hx) fun j hj => by
      rw [flat_len hE] at hj
      have := h3 (A.length * k + j) (by omega)
      rwa [← Nat.add_assoc] at this
    rw [flat_len hE] at hg
    refine ⟨σ.set b (.cells n c' e g false), ?_, rfl, fun d hd => by rw [AHeap.get_set, if_neg hd], n, c', by simp, fun i x hi j v hj => ?_, fun i hi => ?_⟩
    · unfold AE.stCells
      split
      · rename_i q; exact absurd q hn
      · simp only [h1, hc]
    · have hjl : j < k := by have := (List.getElem?_eq_some_iff.1 hj).1; rwa [hE.len] at this
      rw [hg]
      by_cases hl : i < A.length
      · have := Nat.mul_le_mul_right k (show i + 1 ≤ A.length from hl)
        rw [Nat.add_mul, Nat.one_mul] at this
        rw [if_neg (by omega)]
        rw [List.getElem?_append_left hl] at hi
        exact h2 i x hi j v hj
      · rw [List.getElem?_append_right (by omega)] at hi
        have hi2 : i - A.length < B.length := (List.getElem?_eq_some_iff.1 hi).1
        have := Nat.mul_le_mul_right k (show i - A.length + 1 ≤ B.length from hi2)
        rw [Nat.add_mul, Nat.one_mul] at this
        have hm : i * k = A.length * k + (i - A.length) * k := by rw [← Nat.add_mul]; congr 1; omega
        rw [if_pos (by omega), show o + i * k + j - (o + A.length * k) = (i - A.length) * k + j by omega]
        exact flat_get hE B _ x j v hi hj
    · rw [hg]
      split
      · rw [List.getElem?_eq_getElem (by rw [flat_len hE]; omega)]; rfl
      · exact h3 i hi

/-- A slice that holds things; its row starts at an element. -/
def SlAt (σ : AHeap) (e : TypeId) (k : Nat) (enc : α → List Value) (v : Value) (A : List α) : Prop :=
  (v = .slice none 0 0 ∧ A = []) ∨ (∃ a j, v = .slice (some a) 0 0 ∧ a.spot = some j ∧ A = []) ∨
  ∃ b o cap g, v = .slice (some ⟨b, o, none⟩) A.length cap ∧ A.length ≤ cap ∧ b < σ.next ∧ ArrAt σ b e g k enc o A cap
def blks : Value → List Nat
  | .slice (some ⟨b, _, none⟩) _ _ => [b]
  | _ => []
theorem SlAt.same {σ σ' : AHeap} {F : List Nat} {e : TypeId} {v : Value} {A : List α} (h : SlAt σ e k enc v A) (hs : Same σ σ' F) (hF : ∀ b ∈ blks v, b ∉ F) : SlAt σ' e k enc v A := by
  rcases h with h | h | ⟨b, o, cap, g, h1, h2, h3, h4⟩
  · exact .inl h
  · exact .inr (.inl h)
  · subst h1
    exact .inr (.inr ⟨b, o, cap, g, rfl, h2, Nat.lt_of_lt_of_le h3 hs.next, h4.of_get (hs.get b h3 (hF b (by simp [blks])))⟩)
theorem SlAt.len {σ : AHeap} {e : TypeId} {v : Value} {A : List α} (h : SlAt σ e k enc v A) : ∃ a c, v = .slice a A.length c ∧ A.length ≤ c := by
  rcases h with ⟨rfl, rfl⟩ | ⟨a, j, rfl, _, rfl⟩ | ⟨b, o, cap, g, rfl, h2, _⟩
  · exact ⟨_, _, rfl, Nat.le_refl _⟩
  · exact ⟨_, _, rfl, Nat.le_refl _⟩
  · exact ⟨_, _, rfl, h2⟩
theorem SlAt.at_ {σ : AHeap} {e : TypeId} {v : Value} {A : List α} (h : SlAt σ e k enc v A) {i : Nat} {x : α} (hi : A[i]? = some x) :
    ∃ b o cap g, v = .slice (some ⟨b, o, none⟩) A.length cap ∧ A.length ≤ cap ∧ b < σ.next ∧ ArrAt σ b e g k enc o A cap := by
  rcases h with ⟨rfl, rfl⟩ | ⟨a, j, rfl, _, rfl⟩ | h
  · simp at hi
  · simp at hi
  · exact h
theorem SlAt.lt {σ : AHeap} {e : TypeId} {v : Value} {A : List α} (h : SlAt σ e k enc v A) : ∀ b ∈ blks v, b < σ.next := by
  rcases h with ⟨rfl, rfl⟩ | ⟨⟨b0, o0, s0⟩, j, rfl, hs, rfl⟩ | ⟨b, o, cap, g, rfl, h2, h3, _⟩
  · intro b hb; cases hb
  · intro b hb; simp only at hs; subst hs; cases hb
  · intro c hc; simp [blks] at hc; omega
theorem SlAt.new (hE : Enc k enc) (σ : AHeap) (e : TypeId) (g : Bool) (A : List α) : SlAt (newCells σ e (A.flatMap enc) g).2 e k enc (.slice (some ⟨σ.next, 0, none⟩) A.length A.length) A :=
  .inr (.inr ⟨σ.next, 0, A.length, g, rfl, Nat.le_refl _, by rw [next_newCells]; omega, ArrAt.new hE σ e g A⟩)
/-- All of it read. -/
theorem SlAt.first (hE : Enc k enc) {σ : AHeap} {e : TypeId} {v : Value} {A : List α} (h : SlAt σ e k enc v A) : firstCells' k A.length σ v = some (A.flatMap enc) := by
  rcases h with ⟨rfl, rfl⟩ | ⟨a, j, rfl, _, rfl⟩ | ⟨b, o, cap, g, rfl, h2, _, h4⟩
  · simp [firstCells']
  · simp [firstCells', AE.ldCells]
  · exact h4.all hE
/-- Things appended. -/
theorem append_spec (hE : Enc k enc) {σ : AHeap} {e : TypeId} {base : Option Addr} {n cap : Nat} {A : List α} (h : SlAt σ e k enc (.slice base n cap) A) (B : List α) (hl : A.length + B.length ≤ 1048576) :
    ∃ v' σ', appendCells e k base n cap B.length (B.flatMap enc) σ = some (v', σ') ∧ SlAt σ' e k enc v' (A ++ B) ∧ Same σ σ' (blks (.slice base n cap)) ∧ ∀ b ∈ blks v', b ∈ blks (.slice base n cap) ∨ σ.next ≤ b := by
  obtain ⟨a0, c0, hv, hc0⟩ := h.len
  have hn : n = A.length := by injection hv
  have hcap : A.length ≤ cap := by injection hv with _ _ h3; omega
  subst hn
  have hf := h.first hE
  unfold appendCells
  cases hb : (A.length + B.length).ble cap with
  | true =>
    have hle := Nat.le_of_ble_eq_true hb
    simp only
    rcases h with ⟨e1, e2⟩ | ⟨a, j, e1, hj, e2⟩ | ⟨b, o, cap', g, e1, h2, h3, h4⟩
    · injection e1 with e1 e3 e4
      subst e1 e2 e4
      have : B = [] := by simpa using hle
      subst this
      exact ⟨_, _, rfl, .inl ⟨rfl, rfl⟩, .refl _ _, fun b hb => by cases hb⟩
    · injection e1 with e1 e3 e4
      subst e1 e2 e4
      have : B = [] := by simpa using hle
      subst this
      refine ⟨_, _, by simp only [List.flatMap_nil, AE.stCells]; rfl, .inr (.inl ⟨a, j, rfl, hj, rfl⟩), .refl _ _, fun b hb => .inl hb⟩
    · injection e1 with e1 e3 e4
      subst e1 e4
      obtain ⟨σ', p1, p2, p3, p4⟩ := h4.puts hE B hle
      refine ⟨.slice (some ⟨b, o, none⟩) (A.length + B.length) cap, σ', by simp only [p1], .inr (.inr ⟨b, o, cap, g, by rw [List.length_append], by rw [List.length_append]; exact hle, by rw [p2]; exact h3, p4⟩), ⟨by rw [p2]; exact Nat.le_refl _, fun c _ hc => p3 c (by simpa [blks] using hc)⟩, fun c hc => .inl hc⟩
  | false =>
    simp only [hf]
    have c1 : (A.length + B.length).ble 1048576 = true := Nat.ble_eq_true_of_le hl
    have c2 : (A.flatMap enc).length.beq (A.length * k) = true := by rw [flat_len hE, Nat.beq_refl]
    have c3 : (B.flatMap enc).length.beq (B.length * k) = true := by rw [flat_len hE, Nat.beq_refl]
    have c4 : (B.flatMap enc).all single = true := List.all_eq_true.2 fun v hv => by obtain ⟨x, _, hx⟩ := List.mem_flatMap.1 hv; exact hE.single x v hx
    simp only [c1, c2, c3, c4, Bool.and_self]
    have fresh : ∀ τ : AHeap, SlAt (newCells τ e (A.flatMap enc ++ B.flatMap enc) true).2 e k enc (.slice (some ⟨τ.next, 0, none⟩) (A.length + B.length) (A.length + B.length)) (A ++ B) := fun τ => by
      rw [← List.flatMap_append, ← List.length_append]
      exact SlAt.new hE τ e true (A ++ B)
    rcases h with ⟨e1, e2⟩ | ⟨a, j, e1, hj, e2⟩ | ⟨b, o, cap', g, e1, h2, h3, h4⟩
    · injection e1 with e1 e3 e4
      subst e1
      exact ⟨_, _, rfl, fresh σ, .mono (.newCells _ _ _ _) (fun b hb => by cases hb), fun b hb => by simp [blks, newCells_eq] at hb; omega⟩
    · injection e1 with e1 e3 e4
      subst e1
      simp only [hj]
      exact ⟨_, _, rfl, fresh σ, .mono (.newCells _ _ _ _) (fun b hb => by cases hb), fun b hb => by simp [blks, newCells_eq] at hb; omega⟩
    · injection e1 with e1 e3 e4
      subst e1
      obtain ⟨m, c, hg, _⟩ := h4
      simp only [hg]
      cases g with
      | true =>
        simp only [Nat.beq_refl]
        refine ⟨_, _, rfl, fresh (σ.drop b), (Same.drop σ b).trans (.newCells _ _ _ _) (fun c hc => by cases hc), fun c hc => by simp [blks, newCells_eq] at hc; omega⟩
      | false =>
        simp only
        exact ⟨_, _, rfl, fresh σ, .mono (.newCells _ _ _ _) (fun b hb => by cases hb), fun b hb => by simp [blks, newCells_eq] at hb; omega⟩
end
end Go.AE
end
/- Maps whose keys are strings, as the evaluator sees them. -/
section
set_option linter.all false
namespace Go.AE
variable {P : Program}

/-- Pairs by their keys. -/
abbrev Prs := List (ByteArray × Value)
/-- A map that holds the pairs. -/
structure MapOf (es : List MapEntry) (cl : Nat) (M : Prs) : Prop where
  prs : es.map (fun e => (e.key, e.val)) = M.map fun p => (Value.string p.1, p.2)
  nodup : (M.map (·.1)).Nodup
  born : bornB cl es 0 = true
  size : ∀ s ∈ M.map (·.1), s.size ≤ 9223372036854775807
def MapAt (σ : AHeap) (m : Nat) (M : Prs) : Prop := ∃ es cl, σ.get m = some (.map es cl false) ∧ MapOf es cl M
theorem MapAt.of_get {σ σ' : AHeap} {m : Nat} {M : Prs} (h : MapAt σ m M) (hg : σ'.get m = σ.get m) : MapAt σ' m M := by
  obtain ⟨es, cl, h1, h2⟩ := h; exact ⟨es, cl, by rw [hg, h1], h2⟩
theorem MapAt.nil (σ : AHeap) : MapAt (σ.new (.map [] 0 false)).2 σ.next [] := ⟨[], 0, by rw [AHeap.get_new, if_pos rfl], rfl, .nil, rfl, by simp⟩
theorem MapAt.nodup {σ : AHeap} {m : Nat} {M : Prs} (h : MapAt σ m M) : (M.map (·.1)).Nodup := by obtain ⟨_, _, _, h2⟩ := h; exact h2.nodup
theorem MapAt.len {σ : AHeap} {m : Nat} {M : Prs} (h : MapAt σ m M) {t kt et : TypeId} (ht : P.underlying t = some (.map kt et)) {ts : Array TypeId} (hts : ts[0]? = some t) : builtin' P .len ts [.map (some m)] σ = some (goInt M.length, σ) := by
  obtain ⟨es, cl, h1, h2⟩ := h
  have : es.length = M.length := by have := congrArg List.length h2.prs; simpa using this
  simp only [builtin', hts, Option.bind_some, ht, h1, this]
end Go.AE
namespace Go.AE
variable {P : Program}
end Go.AE
namespace Go.AE
theorem Same.ld {σ σ' : AHeap} {F : List Nat} (h : Same σ σ' F) {b : Nat} (hb : b < σ.next) (hF : b ∉ F) (o : Nat) : AE.ld σ' b o = AE.ld σ b o := by simp only [AE.ld, h.get b hb hF]
theorem Same.ldCells {σ σ' : AHeap} {F : List Nat} (h : Same σ σ' F) {b : Nat} (hb : b < σ.next) (hF : b ∉ F) (o n : Nat) : AE.ldCells σ' b o n = AE.ldCells σ b o n := by
  unfold AE.ldCells
  split
  · rfl
  · simp only [h.get b hb hF]
end Go.AE
namespace Go.AE
theorem Same.app {σ1 σ2 σ3 : AHeap} {F G : List Nat} (h : Same σ1 σ2 F) (k : Same σ2 σ3 G) : Same σ1 σ3 (F ++ G) :=
  (h.mono fun b hb => List.mem_append.2 (.inl hb)).trans k fun b hb => .inl (List.mem_append.2 (.inr hb))
/-- What is new may be left out. -/
theorem Same.old {σ σ' : AHeap} {F G : List Nat} (h : Same σ σ' F) (hF : ∀ b ∈ F, b ∈ G ∨ σ.next ≤ b) : Same σ σ' G :=
  ⟨h.next, fun b hb hn => h.get b hb fun q => by rcases hF b q with r | r; exact hn r; omega⟩
end Go.AE
end
/- Slices cut, cells laid anew, appends. -/
section
set_option linter.all false
namespace Go.AE
variable {P : Program}
section
variable {α : Type} {k : Nat} {enc : α → List Value}
theorem append_eq {t e x size : Nat} {z : List Value} (ht : P.underlying t = some (.slice e)) (hx : P.underlying x = some (.slice e)) (he : elemOk P e = some (size, z)) {base a : Option Addr} {n cap m c : Nat} {cs : List Value} {σ : AHeap} (hf : firstCells' size m σ (.slice a m c) = some cs) :
    builtin' P .append #[t, x] [.slice base n cap, .slice a m c] σ = appendCells e size base n cap m cs σ := by
  have h0 : (#[t, x] : Array TypeId)[0]? = some t := rfl
  have h1 : (#[t, x] : Array TypeId)[1]? = some x := rfl
  simp only [builtin', h0, h1, Option.bind_some, append', ht, he, hx, lenOf', hf]
end
/-- A variable's cells laid over. -/
theorem store_cells {σ : AHeap} {b n : Nat} {c : Tr Value} {e : TypeId} {g : Bool} (h : σ.get b = some (.cells n c e g false)) {off : Nat} {vs : List Value} (hs : ∀ v ∈ vs, single v = true) (hj : ∀ j, j < vs.length → (c.get (off + j)).isSome) :
    ∃ σ' c', stCells σ b off vs = some σ' ∧ σ'.get b = some (.cells n c' e g false) ∧ (∀ i, c'.get i = if off ≤ i ∧ i < off + vs.length then vs[i - off]? else c.get i) ∧ Same σ σ' [b] ∧ σ'.next = σ.next := by
  obtain ⟨c', hc, hg⟩ := stN_of (c := Tr.leaf) vs c off hs hj
  cases vs with
  | nil => exact ⟨σ, c, rfl, h, fun i => by simp; intro h1 h2; omega, .refl _ _, rfl⟩
  | cons v vs =>
    refine ⟨_, c', by simp only [stCells, h, hc]; rfl, by rw [AHeap.get_set, if_pos rfl], hg, .set _ _ _, rfl⟩
end Go.AE
namespace Go.AE
variable {P : Program} {call : CallF} {n : Nat}
/-! A loop with what holds at its head. -/
def KInv (I : Nat → AFr → AHeap → Prop) (k : Nat) (Q : AExit × AFr × AHeap → Prop) : AExit × AFr × AHeap → Prop
  | (.normal, fr, σ) => ∃ k', k' < k ∧ I k' fr σ
  | r => Q r
theorem KInv_normal {I : Nat → AFr → AHeap → Prop} {k : Nat} {Q} {fr : AFr} {σ : AHeap} : KInv I k Q (.normal, fr, σ) = ∃ k', k' < k ∧ I k' fr σ := rfl
theorem KInv_exit {I : Nat → AFr → AHeap → Prop} {k i : Nat} {Q} {fr : AFr} {σ : AHeap} : KInv I k Q (.exit i, fr, σ) = Q (.exit i, fr, σ) := rfl
theorem KInv_ret {I : Nat → AFr → AHeap → Prop} {k : Nat} {Q} {fr : AFr} {σ : AHeap} : KInv I k Q (.ret, fr, σ) = Q (.ret, fr, σ) := rfl
theorem W_inv {body : Code} {fr : AFr} {σ : AHeap} {Q : AExit × AFr × AHeap → Prop} (I : Nat → AFr → AHeap → Prop) (k : Nat) (hk : k < n) (hi : I k fr σ)
    (hs : ∀ k fr σ, I k fr σ → W (exec P call n body fr σ) (KInv I k Q)) : W (exec P call n (.loop body) fr σ) Q := by
  refine W_loop_exec I k hk hi fun k fr σ h => (hs k fr σ h).mono fun r hr => ?_
  obtain ⟨e, f, s⟩ := r
  cases e <;> exact hr
theorem bin_quo2 {t : TypeId} {x y : Operand} {k : IntKind} {a : Int} : bin P .quo t x y (.int k a) (.int k 2) = some (.int k (k.wrap (a.tdiv 2))) := bin_quo (by decide)
theorem wrap64_m1 : IntKind.i64.wrap (0 - 1) = -1 := by decide
theorem wrap64_half : IntKind.i64.wrap ((-1 : Int).tdiv 2) = 0 := by decide
end Go.AE
namespace Go.AE
variable {P : Program}
/-- A result that stands in a variable. -/
def loadC (P : Program) (t : TypeId) (v : Value) (σ : AHeap) : Option Value := match v with
  | .pointer (some ⟨b, off, none⟩) => ldVar P t σ b off
  | _ => none
theorem loadC_ptr {t b o : Nat} {σ : AHeap} : loadC P t (.pointer (some ⟨b, o, none⟩)) σ = ldVar P t σ b o := rfl
theorem rs_ct {fn : Func} {fr : AFr} {σ : AHeap} {a t u : Nat} (h : fn.results = #[.cell a t, .tmp u]) : results' P fn fr σ = (loadC P t (fr.at_ a) σ).map fun v => .tuple #[v, fr.at_ u] := by
  have : resOne P fr σ (.cell a t) = loadC P t (fr.at_ a) σ := by
    simp only [resOne, loadC]
    generalize fr.at_ a = v
    cases v <;> rfl
  unfold results'
  rw [h]
  simp only [resAll, this, resOne_tmp]
  cases loadC P t (fr.at_ a) σ <;> rfl
end Go.AE
namespace Go.AE
section
variable {α : Type} {k : Nat} {enc : α → List Value}
end
end Go.AE
end
/- Variables of known cells. -/
section
set_option linter.all false
namespace Go.AE
variable {P : Program}
def VarAt (σ : AHeap) (b : Nat) (vs : List Value) : Prop := b < σ.next ∧ ∃ n c e g, σ.get b = some (.cells n c e g false) ∧ ∀ (o : Nat) v, vs[o]? = some v → c.get o = some v
theorem VarAt.same {σ σ' : AHeap} {F : List Nat} {b : Nat} {vs : List Value} (h : VarAt σ b vs) (hs : Same σ σ' F) (hF : b ∉ F) : VarAt σ' b vs := by
  obtain ⟨h0, n, c, e, g, h1, h2⟩ := h
  exact ⟨Nat.lt_of_lt_of_le h0 hs.next, n, c, e, g, by rw [hs.get b h0 hF]; exact h1, h2⟩
theorem VarAt.ld {σ : AHeap} {b : Nat} {vs : List Value} (h : VarAt σ b vs) {o : Nat} {v : Value} (ho : vs[o]? = some v) : AE.ld σ b o = some v := by
  obtain ⟨h0, n, c, e, g, h1, h2⟩ := h
  simp only [AE.ld, h1]
  exact h2 o v ho
theorem VarAt.ldCells {σ : AHeap} {b : Nat} {vs : List Value} (h : VarAt σ b vs) : AE.ldCells σ b 0 vs.length = some vs := by
  obtain ⟨h0, n, c, e, g, h1, h2⟩ := h
  unfold AE.ldCells
  split
  · rename_i q; rw [List.eq_nil_of_length_eq_zero q]
  · simp only [h1]
    exact ldN_of vs 0 fun j v hj => by rw [Nat.zero_add]; exact h2 j v hj
theorem VarAt.new (σ : AHeap) (e : TypeId) (zs : List Value) (g : Bool) : VarAt (newCells σ e zs g).2 σ.next zs :=
  ⟨by rw [next_newCells]; omega, _, _, _, _, by rw [get_newCells, if_pos rfl], fun o v h => by rw [Tr.get_of]; exact h⟩
theorem VarAt.store {σ : AHeap} {b : Nat} {vs vs' : List Value} (h : VarAt σ b vs) (hl : vs'.length = vs.length) (hs : ∀ v ∈ vs', single v = true) : ∃ σ', stCells σ b 0 vs' = some σ' ∧ VarAt σ' b vs' ∧ Same σ σ' [b] ∧ σ'.next = σ.next := by
  obtain ⟨h0, n, c, e, g, h1, h2⟩ := h
  obtain ⟨σ', c', a1, a2, a3, a4, a5⟩ := store_cells h1 (off := 0) hs fun j hj => by rw [Nat.zero_add, h2 j vs[j] (List.getElem?_eq_getElem (by omega))]; rfl
  refine ⟨σ', a1, ⟨by rw [a5]; exact h0, n, c', e, g, a2, fun o v ho => ?_⟩, a4, a5⟩
  have := (List.getElem?_eq_some_iff.1 ho).1
  rw [a3, if_pos (by omega), Nat.sub_zero]
  exact ho
theorem VarAt.storeAt {σ : AHeap} {b i : Nat} {vs : List Value} (h : VarAt σ b vs) (hi : i < vs.length) {v : Value} (hs : single v = true) : ∃ σ', stCells σ b i [v] = some σ' ∧ VarAt σ' b (vs.set i v) ∧ Same σ σ' [b] ∧ σ'.next = σ.next := by
  obtain ⟨h0, n, c, e, g, h1, h2⟩ := h
  obtain ⟨σ', c', a1, a2, a3, a4, a5⟩ := store_cells h1 (off := i) (vs := [v]) (by intro u hu; simp at hu; subst hu; exact hs) fun j hj => by simp at hj; subst hj; rw [Nat.add_zero, h2 i vs[i] (List.getElem?_eq_getElem hi)]; rfl
  refine ⟨σ', a1, ⟨by rw [a5]; exact h0, n, c', e, g, a2, fun o u ho => ?_⟩, a4, a5⟩
  rw [a3]
  by_cases q : o = i
  · subst q
    rw [List.getElem?_set_self hi] at ho
    rw [if_pos (by simp), Nat.sub_self]
    simpa using ho
  · rw [List.getElem?_set_ne (fun e => q e.symm)] at ho
    rw [if_neg (by simp; omega)]
    exact h2 o u ho
end Go.AE
namespace Go.AE
variable {P : Program}
section
variable {α : Type} {k : Nat} {enc : α → List Value}
/-- A slice that is only read. -/
def SlR (σ : AHeap) (k : Nat) (enc : α → List Value) (v : Value) (A : List α) : Prop :=
  (∃ a c, v = .slice a 0 c ∧ A = []) ∨ ∃ b o cap, v = .slice (some ⟨b, o, none⟩) A.length cap ∧ b < σ.next ∧ ∀ i x, A[i]? = some x → ldCells σ b (o + i * k) k = some (enc x)
theorem SlR.same {σ σ' : AHeap} {F : List Nat} {v : Value} {A : List α} (h : SlR σ k enc v A) (hs : Same σ σ' F) (hF : ∀ b ∈ blks v, b ∉ F) : SlR σ' k enc v A := by
  rcases h with h | ⟨b, o, cap, h1, h2, h3⟩
  · exact .inl h
  · subst h1
    exact .inr ⟨b, o, cap, rfl, Nat.lt_of_lt_of_le h2 hs.next, fun i x hi => by rw [hs.ldCells h2 (hF b (by simp [blks]))]; exact h3 i x hi⟩
theorem SlR.len {σ : AHeap} {v : Value} {A : List α} (h : SlR σ k enc v A) : ∃ a c, v = .slice a A.length c := by
  rcases h with ⟨a, c, rfl, rfl⟩ | ⟨b, o, cap, rfl, _⟩
  · exact ⟨a, c, rfl⟩
  · exact ⟨_, _, rfl⟩
theorem SlR.at_ {σ : AHeap} {v : Value} {A : List α} (h : SlR σ k enc v A) {i : Nat} {x : α} (hi : A[i]? = some x) : ∃ b o cap, v = .slice (some ⟨b, o, none⟩) A.length cap ∧ b < σ.next ∧ ldCells σ b (o + i * k) k = some (enc x) := by
  rcases h with ⟨a, c, rfl, rfl⟩ | ⟨b, o, cap, rfl, h2, h3⟩
  · simp at hi
  · exact ⟨b, o, cap, rfl, h2, h3 i x hi⟩
end
/-- A word's beginning. -/
def cut (h : Nat) (s : ByteArray) : ByteArray := ⟨(s.data.toList.take h).toArray⟩
theorem min_int {t u : TypeId} {k : IntKind} {a b : Int} {σ : AHeap} : builtin' P .min #[t, u] [.int k a, .int k b] σ = some (.int k (if b < a then b else a), σ) := by
  simp only [builtin', mmAll, mm, atom, Bool.and_self, if_true]
  simp [Builtin.min2, pureP, atomic, atom]
  by_cases h : b < a <;> simp [h, pureP_pure, atomic, atom]
end Go.AE
end
/- The step laws, gathered. -/
section
set_option linter.all false
set_option linter.defProp false
namespace Go.AE
def B0 := And.intro @plainD_region (And.intro @plainD_cons (And.intro @plainD_seq (And.intro @plainD_cond (And.intro @plainD_block (And.intro @plainD_loop (And.intro @plainD_scope (And.intro @plainD_skip (And.intro @plainD_ret (And.intro @plainD_exit (And.intro @W_skip (And.intro @W_ret (And.intro @W_exit (And.intro @W_scope (And.intro @W_seq (And.intro @W_block (And.intro @W_cond (And.intro @W_region (And.intro @W_ops_nil (@W_ops)))))))))))))))))))
def B1 := And.intro @W_ops_guard (And.intro @W_some (And.intro @W_none (And.intro @KSeq_normal (And.intro @KSeq_exit (And.intro @KSeq_ret (And.intro @KBlk_normal (And.intro @KBlk_ret (And.intro @KBlk_exit (And.intro @KReg_mk (And.intro @KOp_mk (And.intro @KRet_normal (And.intro @KRet_ret (And.intro @Wc_true (And.intro @Wc_false (And.intro @WGo_tt (And.intro @WGo_ff (And.intro @WGo_tf (And.intro @WGo_ft (@WGt_tt)))))))))))))))))))
def B2 := And.intro @WGt_ff (And.intro @WGt_tf (And.intro @WGt_ft (And.intro @WGo_un (And.intro @WGt_un (And.intro @aop_move (And.intro @aop_assign (And.intro @aop_pick (And.intro @aop_alloc (And.intro @aop_box (And.intro @aop_build (And.intro @aop_load (And.intro @aop_store (And.intro @aop_nilCheck (And.intro @aop_binOp (And.intro @aop_unOp (And.intro @aop_convert (And.intro @aop_makeInterface (And.intro @aop_makeFunc (@aop_makeMap)))))))))))))))))))
def B3 := And.intro @aop_slice (And.intro @aop_fieldAddr (And.intro @aop_field (And.intro @aop_indexAddr (And.intro @aop_index (And.intro @aop_lookup (And.intro @aop_mapUpdate (And.intro @aop_extract (And.intro @aop_builtin (And.intro @aop_call (And.intro @aop_invoke (And.intro @aop_typeAssert (And.intro @aop_buildSlice (And.intro @eval_tmp (And.intro @eval_const (And.intro @eval_func (And.intro @put_none (And.intro @put_mk (And.intro @at_mk (@get_put)))))))))))))))))))
def B4 := And.intro @get_args (And.intro @withH_some (And.intro @nilV_ptr (And.intro @nilV_iface (And.intro @pickV_true (And.intro @pickV_false (And.intro @loadV_ptr (And.intro @callV_func (And.intro @allocV_zero (And.intro @W_tr_nil (And.intro @W_tr (And.intro @W_tr_guard (And.intro @KTr_mk (And.intro @KRe_mk (And.intro @W_loopN (And.intro @KLoop_normal (And.intro @KLoop_exit (And.intro @KLoop_ret (And.intro @retold_nil (@retold_cons)))))))))))))))))))
def B5 := And.intro @RetAt_mk (And.intro @RetAt_last (And.intro @retells_eq (And.intro @sameV_int (And.intro @sameV_string (And.intro @sameV_bool (And.intro @sameV_ptr (And.intro @sameV_map (And.intro @sameV_slice (And.intro @loadC_ptr (And.intro @KInv_exit (And.intro @KInv_ret (And.intro @bin_quo2 (And.intro @wrap64_m1 (And.intro @wrap64_half (And.intro @idx_zero (And.intro @idx_one (And.intro @idx_cast (And.intro @wrap64_1 (@wrap64_2)))))))))))))))))))
def B6 := And.intro @bin_lss (And.intro @bin_leq (And.intro @bin_gtr (And.intro @bin_geq (And.intro @bin_ieql (And.intro @bin_ineq (And.intro @bin_add (And.intro @bin_sub (And.intro @bin_mul (And.intro @bin_slss (And.intro @bin_sgtr (And.intro @bin_seql (And.intro @bin_sneq (@un_not)))))))))))))
def B7 := And.intro @List.append_eq.{0} (And.intro @List.map_cons.{0,0} (And.intro @List.map_nil.{0,0} (And.intro @List.nil_append.{0} (And.intro @List.cons_append.{0} (And.intro @List.append_nil.{0} (And.intro @List.getElem?_cons_zero.{0} (And.intro @List.getElem?_cons_succ.{0} (And.intro @List.getElem?_nil.{0} (And.intro @List.length_cons.{0} (And.intro @List.length_nil.{0} (And.intro @Option.map_some.{0,0} (And.intro @Option.map_none.{0,0} (And.intro @Option.getD_some.{0} (And.intro @Option.getD_none.{0} (And.intro @Option.bind_some.{0,0} (And.intro @Option.some.injEq.{0} (And.intro @Nat.zero_add (And.intro @Nat.add_zero (And.intro @Int.cast_ofNat_Int (And.intro @Int.lt_irrefl (And.intro @decide_true (And.intro @decide_false (And.intro @Bool.not_true (And.intro @Bool.not_false (And.intro @and_true (And.intro @true_and (And.intro @List.getElem?_toArray.{0} (@Array.toList_map.{0,0}))))))))))))))))))))))))))))
end Go.AE
end
/- Structs compared. -/
section
set_option linter.all false
namespace Go.AE
variable {P : Program}
theorem pureP_bind {α β : Type} (f : α → Sem β) : ∀ s : Sem α, pureP P (s >>= f) = (pureP P s).bind fun a => pureP P (f a) := by
  intro s
  induction s with
  | pure a => rfl
  | program k ih => exact ih P
  | _ => rfl
theorem pureP_under {t : TypeId} {d : TypeDesc} (h : P.underlying t = some d) : pureP P (underlying t) = some d := by
  show pureP P (match P.underlying t with | some d => pure d | none => stuck "no such type") = _
  rw [h]; rfl
theorem eq_int {t d : Nat} {k kk : IntKind} {a b : Int} (h : P.underlying t = some (.int kk)) : pureP P (Op.equalIn (d + 1) t (.int k a) (.int k b)) = some (decide (a = b)) := by
  simp only [Op.equalIn, pureP_bind, pureP_under h, Option.bind_some]
  simp [pureP_pure, int_beq]
end Go.AE
end
/- One thing appended to a slice. -/
section
set_option linter.all false
namespace Go.AE
variable {P : Program}
section
variable {α : Type} {k : Nat} {enc : α → List Value}
end
/-- A variable made and filled. -/
theorem newVar (σ : AHeap) (T : TypeId) (zs vs : List Value) (hl : vs.length = zs.length) (hs : ∀ v ∈ vs, single v = true) :
    ∃ σ1 σ2, (newCells σ T zs).2 = σ1 ∧ stCells σ1 σ.next 0 vs = some σ2 ∧ Same σ σ2 [] ∧ VarAt σ2 σ.next vs ∧ σ2.next = σ.next + 1 ∧ Same σ σ1 [] := by
  obtain ⟨σ2, t2, hv2, hS2, hn2⟩ := (VarAt.new σ T zs false).store hl hs
  have hS1 : Same σ (newCells σ T zs).2 [] := .newCells _ _ _ _
  exact ⟨_, σ2, rfl, t2, (hS1.app hS2).old fun b hb => by simp at hb; exact .inr (by omega), hv2, by rw [hn2, next_newCells], hS1⟩
theorem oneVar (σ : AHeap) (T : TypeId) (zs : List Value) (g : Bool) : ∃ σ1, (newCells σ T zs g).2 = σ1 ∧ Same σ σ1 [] ∧ VarAt σ1 σ.next zs ∧ σ1.next = σ.next + 1 := ⟨_, rfl, .newCells _ _ _ _, .new _ _ _ _, rfl⟩
end Go.AE
namespace Go.AE
variable {P : Program}
section
variable {α : Type} {k : Nat} {enc : α → List Value}
theorem add_none (b o i : Nat) : (⟨b, o, none⟩ : Addr).add i = ⟨b, o + i, none⟩ := by
  unfold Addr.add
  split
  · rename_i q; rw [q]; rfl
  · rfl
theorem ArrAt.drop {σ : AHeap} {b : Nat} {e : TypeId} {g : Bool} {o cap : Nat} {A : List α} (h : ArrAt σ b e g k enc o A cap) {j : Nat} (hj : j ≤ cap) : ArrAt σ b e g k enc (o + j * k) (A.drop j) (cap - j) := by
  obtain ⟨n, c, h1, h2, h3⟩ := h
  refine ⟨n, c, h1, fun i x hi q v hq => ?_, fun i hi => ?_⟩
  · rw [List.getElem?_drop] at hi
    have := h2 (j + i) x hi q v hq
    rwa [show o + (j + i) * k + q = o + j * k + i * k + q by rw [Nat.add_mul]; omega] at this
  · have hle : j * k + i < cap * k := by
      have e : cap * k = j * k + (cap - j) * k := by rw [← Nat.add_mul]; congr 1; omega
      omega
    have := h3 (j * k + i) hle
    rwa [← Nat.add_assoc] at this
/-- A slice's beginning. -/
theorem slice_take {t e : TypeId} {kk : IntKind} {σ : AHeap} {v : Value} {A : List α} (ht : P.underlying t = some (.slice e)) (hs : sizeOf' P e = some k) (h : SlAt σ e k enc v A) {j : Nat} (hj : j ≤ A.length) :
    ∃ v', sliceOp P t v none (some (.int kk (j : Int))) none σ = some v' ∧ SlAt σ e k enc v' (A.take j) ∧ ∀ b ∈ blks v', b ∈ blks v := by
  rcases h with ⟨rfl, rfl⟩ | ⟨a, i, rfl, hi, rfl⟩ | ⟨b, o, cap, g, rfl, h2, h3, h4⟩
  · have : j = 0 := by simpa using hj
    subst this
    exact ⟨.slice none 0 0, by simp [sliceOp, ht, hs, bounds, ubound, lowB, natOf], .inl ⟨rfl, by simp⟩, fun b hb => hb⟩
  · have : j = 0 := by simpa using hj
    subst this
    refine ⟨exactEmpty a, by simp [sliceOp, ht, hs, bounds, ubound, lowB, natOf, hi], .inr (.inl ⟨_, 0, rfl, rfl, by simp⟩), fun b hb => by cases hb⟩
  · have hu : ubound (.int kk (j : Int)) cap = some j := by
      show (match j.ble cap with | true => some j | false => none) = some j
      rw [Nat.ble_eq_true_of_le (by omega)]
    obtain ⟨n, c, h5, _⟩ := h4
    have hb : (!g || e.beq e) = true := by rw [Nat.beq_refl, Bool.or_true]
    have hl : (A.take j).length = j := by rw [List.length_take]; omega
    have h6 := (show ArrAt σ b e g k enc o A cap from ⟨n, c, h5, ‹_›⟩).take j
    cases hc : cap.beq 0 with
    | false =>
      exact ⟨.slice (some ⟨b, o, none⟩) j cap, by simp only [sliceOp, ht, hs, Nat.ble_eq_true_of_le h2, bounds, hu, lowB, h5, hb, sliceRow, hc, Nat.zero_mul, Addr.add, if_true, Nat.sub_zero], .inr (.inr ⟨b, o, cap, g, by rw [hl], by omega, h3, h6⟩), fun c hc => hc⟩
    | true =>
      have hc0 := Nat.eq_of_beq_eq_true hc
      have hj0 : j = 0 := by omega
      subst hc0 hj0
      cases g with
      | false => exact ⟨exactEmpty ⟨b, o, none⟩, by simp only [sliceOp, ht, hs, Nat.ble_eq_true_of_le h2, bounds, hu, lowB, h5, hb, sliceRow, hc]; rfl, .inr (.inl ⟨_, 0, rfl, rfl, by simp⟩), fun b hb => by cases hb⟩
      | true => exact ⟨.slice (some ⟨b, o, none⟩) 0 0, by simp only [sliceOp, ht, hs, Nat.ble_eq_true_of_le h2, bounds, hu, lowB, h5, hb, sliceRow, hc, Nat.zero_mul]; rfl, .inr (.inr ⟨b, o, 0, true, by simp, by simp, h3, h6⟩), fun c hc => hc⟩
/-- A slice's end. -/
theorem slice_drop {t e : TypeId} {kk : IntKind} {σ : AHeap} {v : Value} {A : List α} (ht : P.underlying t = some (.slice e)) (hs : sizeOf' P e = some k) (h : SlAt σ e k enc v A) {j : Nat} (hj : j ≤ A.length) :
    ∃ v', sliceOp P t v (some (.int kk (j : Int))) none none σ = some v' ∧ SlAt σ e k enc v' (A.drop j) ∧ ∀ b ∈ blks v', b ∈ blks v := by
  rcases h with ⟨rfl, rfl⟩ | ⟨a, i, rfl, hi, rfl⟩ | ⟨b, o, cap, g, rfl, h2, h3, h4⟩
  · have : j = 0 := by simpa using hj
    subst this
    exact ⟨.slice none 0 0, by simp [sliceOp, ht, hs, bounds, ubound, lowB, natOf], .inl ⟨rfl, by simp⟩, fun b hb => hb⟩
  · have : j = 0 := by simpa using hj
    subst this
    refine ⟨exactEmpty a, by simp [sliceOp, ht, hs, bounds, ubound, lowB, natOf, hi], .inr (.inl ⟨_, 0, rfl, rfl, by simp⟩), fun b hb => by cases hb⟩
  · have hu : ubound (.int kk (j : Int)) A.length = some j := by
      show (match j.ble A.length with | true => some j | false => none) = some j
      rw [Nat.ble_eq_true_of_le hj]
    have h4' := h4.drop (j := j) (by omega)
    obtain ⟨n, c, h5, _⟩ := h4
    have hb : (!g || e.beq e) = true := by rw [Nat.beq_refl, Bool.or_true]
    have hl : (A.drop j).length = A.length - j := List.length_drop
    cases hc : cap.beq j with
    | false =>
      exact ⟨.slice (some ⟨b, o + j * k, none⟩) (A.length - j) (cap - j), by simp only [sliceOp, ht, hs, Nat.ble_eq_true_of_le h2, bounds, hu, lowB, h5, hb, sliceRow, hc, add_none], .inr (.inr ⟨b, o + j * k, cap - j, g, by rw [hl], by omega, h3, h4'⟩), fun c hc => by simpa [blks] using hc⟩
    | true =>
      have hc0 := Nat.eq_of_beq_eq_true hc
      have hz : A.drop j = [] := List.drop_of_length_le (by omega)
      cases g with
      | false => exact ⟨exactEmpty ⟨b, o, none⟩, by simp only [sliceOp, ht, hs, Nat.ble_eq_true_of_le h2, bounds, hu, lowB, h5, hb, sliceRow, hc]; rfl, .inr (.inl ⟨_, 0, rfl, rfl, hz⟩), fun b hb => by cases hb⟩
      | true =>
        refine ⟨.slice (some ⟨b, o + j * k, none⟩) 0 0, by simp only [sliceOp, ht, hs, Nat.ble_eq_true_of_le h2, bounds, hu, lowB, h5, hb, sliceRow, hc, add_none]; rfl, .inr (.inr ⟨b, o + j * k, 0, true, by rw [hz]; rfl, by rw [hz]; exact Nat.le_refl _, h3, ?_⟩), fun c hc => by simpa [blks] using hc⟩
        rw [show cap - j = 0 by omega] at h4'
        exact h4'
end
end Go.AE
namespace Go.AE
variable {P : Program} {call : CallF}
end Go.AE
namespace Go.AE
variable {P : Program}
theorem conv_int {s d : Nat} {k k' kk : IntKind} {a : Int} {σ : AHeap} (hs : P.underlying s = some (.int k)) (hd : P.underlying d = some (.int k')) : conv P s d (.int kk a) σ = some (.int k' (k'.wrap a), σ) := by
  have h : pureP P (Go.convert s d (.int kk a)) = some (.int k' (k'.wrap a)) := by
    simp only [Go.convert, pureP_bind, pureP_under hs, pureP_under hd, Option.bind_some]
    rfl
  simp only [conv, hs, hd, h, atomic, atom, Option.map_some]
end Go.AE
namespace Go.AE
end Go.AE
end
/- Symbolic runs of a drawn region in which one row is made beside a call and stored to at once. -/
section
set_option linter.all false
namespace Go.AE
variable {P : Program} {call : CallF} {n : Nat}

end Go.AE
end
/- Arrays of words compared and read, bits, letters out of bytes. -/
section
set_option linter.all false
namespace Go.AE
variable {P : Program}
theorem atomic_int {k : IntKind} {a : Int} : atomic (some (.int k a)) = some (.int k a) := rfl
theorem bin_shl {t : TypeId} {x y : Operand} {k yk : IntKind} {a b : Int} (h : 0 ≤ b) : bin P .shl t x y (.int k a) (.int yk b) = some (.int k (k.wrap (a * 2 ^ (min b.toNat k.bits)))) := by
  simp [bin, Go.binOp, Op.shift, show ¬ b < 0 by omega, pureP_pure, atomic_int]
theorem bin_shr {t : TypeId} {x y : Operand} {k yk : IntKind} {a b : Int} (h : 0 ≤ b) : bin P .shr t x y (.int k a) (.int yk b) = some (.int k (a.fdiv (2 ^ (min b.toNat k.bits)))) := by
  simp [bin, Go.binOp, Op.shift, show ¬ b < 0 by omega, pureP_pure, atomic_int]
theorem wrapU {k : IntKind} (hs : k.signed = false) (a : Nat) : k.wrap (a : Int) = ((a % 2 ^ k.bits : Nat) : Int) := by
  unfold IntKind.wrap
  simp [hs]
theorem wrapU64 {a : Nat} (h : a < 18446744073709551616) : IntKind.u64.wrap (a : Int) = (a : Int) := by
  rw [wrapU rfl]
  exact congrArg _ (Nat.mod_eq_of_lt (b := 2 ^ 64) h)
theorem wrapU8 {a : Nat} : IntKind.u8.wrap (a : Int) = ((a % 256 : Nat) : Int) := wrapU rfl a
theorem shl8 {t : TypeId} {x y : Operand} {yk : IntKind} {a : Nat} (h : a < 72057594037927936) : bin P .shl t x y (.int .u64 (a : Int)) (.int yk 8) = some (.int .u64 ((a * 256 : Nat) : Int)) := by
  rw [bin_shl (by omega)]
  have : (a : Int) * 2 ^ (min (8 : Int).toNat IntKind.u64.bits) = ((a * 256 : Nat) : Int) := by
    have : min (8 : Int).toNat IntKind.u64.bits = 8 := by decide
    rw [this]; omega
  rw [this, wrapU64 (by omega)]
end Go.AE
namespace Go.AE
variable {P : Program}
end Go.AE
namespace Go.AE
variable {P : Program} {call : CallF}
def s2apV (P : Program) (arr : TypeId) (v : Value) : Option Value := match P.underlying arr, v with
  | some (.array n _), .slice a len _ => match a with
    | some a => match a.spot with
      | none => match Nat.blt 0 n && n.ble len with
        | true => some (.pointer (some a))
        | false => none
      | some _ => none
    | none => none
  | _, _ => none
theorem aop_s2ap {d : Option Tmp} {ty : TypeId} {pos : String} {af : Array Edge} {g : Option (Nat × Bool)} {fr : AFr} {σ : AHeap} {arr : TypeId} {x : Operand} : aop P call ⟨d, .sliceToArrayPointer arr x, ty, pos, af, g⟩ fr σ = withH σ (s2apV P arr (fr.eval x)) := by
  simp only [aop, s2apV]
  cases P.underlying arr with
  | none => rfl
  | some u =>
    cases u <;> try rfl
    generalize fr.eval x = v
    cases v <;> try rfl
    rename_i a _ _
    cases a with
    | none => rfl
    | some a =>
      simp only
      cases a.spot with
      | some _ => rfl
      | none =>
        simp only
        rename_i n2 _ l2 _
        cases hb : (Nat.blt 0 n2 && n2.ble l2) <;> simp [withH]
/-- The byte of letters at a place, as a number. -/
def kb (k : ByteArray) (i : Nat) : Nat := (k.data.toList.getD i 0).toNat
theorem bytes_of : ∀ L : List Nat, bytesOf (L.map fun b : Nat => Value.int .u8 (b : Int)) = some (L.map UInt8.ofNat)
  | [] => rfl
  | b :: L => by
    have := bytes_of L
    simp only [List.map_cons, bytesOf, this, Option.map_some]
    rfl
end Go.AE
namespace Go.AE
variable {P : Program}
theorem rem4 {t : TypeId} {x y : Operand} {k : IntKind} {a : Nat} : bin P .rem t x y (.int k (a : Int)) (.int k 4) = some (.int k ((a % 4 : Nat) : Int)) := by
  rw [bin_rem (by decide)]
  have : (a : Int).tmod 4 = ((a % 4 : Nat) : Int) := by rw [Int.tmod_eq_emod_of_nonneg (by omega)]; omega
  rw [this]
end Go.AE
namespace Go.AE
end Go.AE
end
/- Maps whose keys are other than letters: keys told by a function. -/
section
set_option linter.all false
namespace Go.AE
variable {P : Program} {α : Type} [DecidableEq α]
/-- How keys stand as values. -/
structure KeyK (P : Program) (kt : TypeId) (kf : α → Value) : Prop where
  ok : ∀ a, keyOk P kt (kf a) = true
  eq : ∀ a b, keyEq P kt false (kf a) (kf b) = some (decide (a = b))
  str : isStr P kt = false
  pl : ∀ a, (plain (kf a) && Instr.sameBits 10000 (kf a) (kf a)) = true
def lookG (M : List (α × Value)) (a : α) : Option Value := (M.find? fun p => decide (p.1 = a)).map (·.2)
theorem lookG_cons (p : α × Value) (M : List (α × Value)) (a : α) : lookG (p :: M) a = if p.1 = a then some p.2 else lookG M a := by
  unfold lookG
  by_cases h : p.1 = a <;> simp [List.find?_cons, h]
theorem lookG_snoc (M : List (α × Value)) (a b : α) (v : Value) (h : lookG M a = none) : lookG (M ++ [(a, v)]) b = if b = a then some v else lookG M b := by
  induction M with
  | nil =>
    by_cases hb : b = a
    · subst hb; simp [lookG]
    · have : ¬ a = b := fun e => hb e.symm
      simp [lookG, hb, this]
  | cons p M ih =>
    rw [lookG_cons] at h
    split at h
    · cases h
    · rename_i hp
      rw [List.cons_append, lookG_cons, ih h, lookG_cons]
      by_cases hb : b = a
      · subst hb; rw [if_neg hp, if_pos rfl, if_pos rfl]
      · rw [if_neg hb, if_neg hb]
/-- A map with such keys. -/
def MapK (kf : α → Value) (σ : AHeap) (m : Nat) (g : α → Option Value) : Prop := ∃ es cl, ∃ M : List (α × Value), σ.get m = some (.map es cl false) ∧ es.map (fun e => (e.key, e.val)) = (M.map fun p => (kf p.1, p.2)) ∧ ∀ a, lookG M a = g a
theorem MapK.same {kf : α → Value} {σ σ' : AHeap} {m : Nat} {g : α → Option Value} {F : List Nat} (h : MapK kf σ m g) (hs : Same σ σ' F) (hm : m < σ.next) (hF : m ∉ F) : MapK kf σ' m g := by
  obtain ⟨es, cl, M, h1, h2, h3⟩ := h
  exact ⟨es, cl, M, by rw [hs.get m hm hF]; exact h1, h2, h3⟩
theorem MapK.new (kf : α → Value) (σ : AHeap) : MapK kf (σ.new (.map [] 0 false)).2 σ.next (fun _ => none) := ⟨[], 0, [], by rw [AHeap.get_new, if_pos rfl], rfl, fun a => rfl⟩
theorem findKey_k {kt : TypeId} {kf : α → Value} (K : KeyK P kt kf) {a : α} : ∀ (es : List MapEntry) (M : List (α × Value)) (i : Nat), es.map (fun e => (e.key, e.val)) = (M.map fun p => (kf p.1, p.2)) →
    (lookG M a = none ∧ findKey' P kt false (kf a) es i = some none) ∨
    ∃ j e, findKey' P kt false (kf a) es i = some (some (i + j, e)) ∧ e.key = kf a ∧ lookG M a = some e.val ∧
      ∀ v, ∃ M' : List (α × Value), (es.modify j fun e => { e with key := kf a, val := v }).map (fun e => (e.key, e.val)) = (M'.map fun p => (kf p.1, p.2)) ∧ ∀ b, lookG M' b = if b = a then some v else lookG M b
  | [], M, i, h => by
    have : M = [] := by cases M with | nil => rfl | cons => simp at h
    subst this
    exact .inl ⟨rfl, rfl⟩
  | e :: es, [], i, h => by simp at h
  | e :: es, p :: M, i, h => by
    rw [List.map_cons, List.map_cons, List.cons.injEq] at h
    obtain ⟨he, hr⟩ := h
    have hk : e.key = kf p.1 := congrArg Prod.fst he
    have hv : e.val = p.2 := congrArg Prod.snd he
    rw [findKey', hk, lookG_cons, K.eq]
    by_cases q : a = p.1
    · right
      subst q
      refine ⟨0, e, by simp, hk, by simp [hv], fun v => ⟨(p.1, v) :: M, by rw [List.modify_zero_cons, List.map_cons, List.map_cons, hr], fun b => ?_⟩⟩
      rw [lookG_cons, lookG_cons]
      by_cases hb : b = p.1
      · subst hb; simp
      · have : ¬ p.1 = b := fun x => hb x.symm
        rw [if_neg this, if_neg hb, if_neg this]
    · have q' : ¬ p.1 = a := fun x => q x.symm
      simp only [decide_eq_false q, if_neg q']
      rcases findKey_k K es M (i + 1) hr with h | ⟨j, e', h1, h2, h3, h4⟩
      · exact .inl h
      · refine .inr ⟨j + 1, e', by rw [h1]; congr 3; omega, h2, h3, fun v => ?_⟩
        obtain ⟨M', m1, m2⟩ := h4 v
        refine ⟨p :: M', by rw [List.modify_succ_cons, List.map_cons, List.map_cons, m1, he], fun b => ?_⟩
        rw [lookG_cons, lookG_cons, m2]
        by_cases hb : b = a
        · subst hb; rw [if_neg q', if_pos rfl, if_pos rfl]
        · rw [if_neg hb, if_neg hb]
theorem MapK.put {t kt et : TypeId} {kf : α → Value} (K : KeyK P kt kf) (ht : P.underlying t = some (.map kt et)) {σ : AHeap} {m : Nat} {g : α → Option Value} (h : MapK kf σ m g) (a : α) (v : Value) :
    ∃ o, mapPut P t (.map (some m)) (kf a) v σ = some (σ.set m o) ∧ MapK kf (σ.set m o) m (fun b => if b = a then some v else g b) := by
  obtain ⟨es, cl, M, h1, h2, h3⟩ := h
  unfold mapPut findW
  simp only [ht, K.ok, h1, K.str]
  rcases findKey_k K (a := a) es M 0 h2 with ⟨h4, h5⟩ | ⟨j, e, h5, h6, h4, h7⟩
  · simp only [h5]
    refine ⟨_, rfl, _, _, M ++ [(a, v)], by rw [AHeap.get_set, if_pos rfl], by simp [h2], fun b => ?_⟩
    rw [lookG_snoc M a b v h4, h3]
  · obtain ⟨M', m1, m2⟩ := h7 v
    simp only [h5, h6, K.pl, Nat.zero_add]
    exact ⟨_, rfl, _, _, M', by rw [AHeap.get_set, if_pos rfl], m1, fun b => by rw [m2, h3]⟩
end Go.AE
namespace Go.AE
variable {P : Program}
end Go.AE
end
/- A function whose arguments are words and one row that is only read, run by the evaluator: what it answers, in the model's words. -/
section
set_option linter.all false
namespace Go.AE
open Go.RowKit Go.ChangeShapes Go.WideShapes
variable {D : Prop} {P : Program}

section
variable {α : Type} {k : Nat} {enc' : α → List Value}
end
end Go.AE
end
/- What came in as a slice of words, and its beginning. -/
section
set_option linter.all false
namespace Go.AE
open Go.RowKit Go.ChangeShapes Go.WideShapes
variable {P : Program}
/-- A slice whose beginning may be taken. -/
def SlCut (σ : AHeap) (v : Value) : Prop := v = .slice none 0 0 ∨ (∃ a : Addr, v = .slice (some { a with spot := some 0 }) 0 0) ∨ ∃ b o len cap n c e ro, v = .slice (some ⟨b, o, none⟩) len cap ∧ len ≤ cap ∧ 0 < cap ∧ b < σ.next ∧ σ.get b = some (.cells n c e false ro)
theorem SlCut.same {σ σ' : AHeap} {F : List Nat} {v : Value} (h : SlCut σ v) (hs : Same σ σ' F) (hF : ∀ b ∈ blks v, b ∉ F) : SlCut σ' v := by
  rcases h with h | h | ⟨b, o, len, cap, n, c, e, ro, rfl, h1, h2, h3, h4⟩
  · exact .inl h
  · exact .inr (.inl h)
  · exact .inr (.inr ⟨b, o, len, cap, n, c, e, ro, rfl, h1, h2, Nat.lt_of_lt_of_le h3 hs.next, by rw [hs.get b h3 (hF b (by simp [blks]))]; exact h4⟩)
section
variable {α : Type} {k : Nat} {enc' : α → List Value}
theorem SlCut.take {t e : TypeId} {kk : IntKind} {σ : AHeap} {v : Value} {A : List α} (h : SlCut σ v) (ht : P.underlying t = some (.slice e)) (hs : sizeOf' P e = some k) (hv : SlR σ k enc' v A) {j : Nat} (hj : j ≤ A.length) :
    ∃ v', sliceOp P t v none (some (.int kk (j : Int))) none σ = some v' ∧ SlR σ k enc' v' (A.take j) ∧ ∀ b ∈ blks v', b ∈ blks v := by
  have ub : ∀ {y : Nat}, j ≤ y → ubound (.int kk (j : Int)) y = some j := fun {y} hy => by unfold ubound natOf; simp [Nat.ble_eq_true_of_le hy]
  rcases h with rfl | ⟨a, rfl⟩ | ⟨b, o, len, cap, n, c, e', ro, rfl, h1, h2, h3, h4⟩
  · obtain ⟨a', c', e1⟩ := hv.len
    injection e1 with _ e2 _
    obtain rfl : j = 0 := by omega
    exact ⟨.slice none 0 0, by simp only [sliceOp, ht, hs, bounds, ub (Nat.le_refl 0), lowB]; try rfl, .inl ⟨_, _, rfl, rfl⟩, fun b hb => hb⟩
  · obtain ⟨a', c', e1⟩ := hv.len
    injection e1 with _ e2 _
    obtain rfl : j = 0 := by omega
    exact ⟨exactEmpty { a with spot := some 0 }, by simp only [sliceOp, ht, hs, bounds, ub (Nat.le_refl 0), lowB]; try rfl, .inl ⟨_, _, rfl, rfl⟩, fun b hb => hb⟩
  · obtain ⟨a', c', e1⟩ := hv.len
    injection e1 with e0 e2 _
    have hz : cap.beq 0 = false := Bool.eq_false_iff.2 fun q => by have := Nat.eq_of_beq_eq_true q; omega
    refine ⟨.slice (some ⟨b, o, none⟩) j cap, ?_, ?_, fun b hb => hb⟩
    · simp only [sliceOp, ht, hs, Nat.ble_eq_true_of_le h1, bounds, ub (show j ≤ cap by omega), lowB, h4, Bool.not_false, Bool.true_or, sliceRow, hz, Nat.zero_mul, Addr.add, if_true, Nat.sub_zero]
    · by_cases hj0 : j = 0
      · subst hj0; exact .inl ⟨_, _, rfl, by simp⟩
      · rcases hv with ⟨a2, c2, e3, hA⟩ | ⟨b2, o2, cap2, e3, h5, h6⟩
        · subst hA; simp at hj; omega
        · injection e3 with e3 e4 e5
          injection e3 with e3
          injection e3 with e3 e6
          subst e3 e6
          refine .inr ⟨b, o, cap, by rw [List.length_take]; congr 1; omega, h5, fun i x hi => h6 i x ?_⟩
          rw [List.getElem?_take] at hi
          split at hi
          · exact hi
          · cases hi
end
end Go.AE
end
/- Words without sign: bits, shifts; slices of bytes cut at both ends. -/
section
set_option linter.all false
namespace Go.AE
variable {P : Program}
section
variable {t : TypeId} {x y : Operand} {k : IntKind} {a b : Nat}
theorem wrapUk (hs : k.signed = false) (h : a < 2 ^ k.bits) : k.wrap (a : Int) = (a : Int) := by rw [wrapU hs, Nat.mod_eq_of_lt h]
theorem toNat_ofInt {n m : Nat} (h : a < 2 ^ n) : (BitVec.ofInt n (a : Int)).toNat = a := by
  rw [BitVec.toNat_ofInt]
  have : ((a : Int) % ((2 ^ n : Nat) : Int)) = (a : Int) := Int.emod_eq_of_lt (by omega) (by exact_mod_cast h)
  rw [this]; rfl
theorem bin_andU (hs : k.signed = false) (ha : a < 2 ^ k.bits) (hb : b < 2 ^ k.bits) : bin P .and t x y (.int k (a : Int)) (.int k (b : Int)) = some (.int k ((a &&& b : Nat) : Int)) := by
  have e : (BitVec.ofInt k.bits (a : Int) &&& BitVec.ofInt k.bits (b : Int)).toNat = a &&& b := by
    rw [BitVec.toNat_and, toNat_ofInt (m := 0) ha, toNat_ofInt (m := 0) hb]
  simp only [bin, Go.binOp, Op.intBits, ne_eq, not_true, if_false, pureP_pure, atomic_int, e]
  rw [wrapUk hs (Nat.lt_of_le_of_lt Nat.and_le_left ha)]
theorem bin_orU (hs : k.signed = false) (ha : a < 2 ^ k.bits) (hb : b < 2 ^ k.bits) : bin P .or t x y (.int k (a : Int)) (.int k (b : Int)) = some (.int k ((a ||| b : Nat) : Int)) := by
  have e : (BitVec.ofInt k.bits (a : Int) ||| BitVec.ofInt k.bits (b : Int)).toNat = a ||| b := by
    rw [BitVec.toNat_or, toNat_ofInt (m := 0) ha, toNat_ofInt (m := 0) hb]
  simp only [bin, Go.binOp, Op.intBits, ne_eq, not_true, if_false, pureP_pure, atomic_int, e]
  rw [wrapUk hs (Nat.or_lt_two_pow ha hb)]
theorem bin_shlU {yk : IntKind} {s : Nat} (hs : k.signed = false) (hb : s ≤ k.bits) (h : a * 2 ^ s < 2 ^ k.bits) : bin P .shl t x y (.int k (a : Int)) (.int yk (s : Int)) = some (.int k ((a * 2 ^ s : Nat) : Int)) := by
  rw [bin_shl (by omega)]
  have : min (s : Int).toNat k.bits = s := by rw [Int.toNat_natCast]; omega
  rw [this, show (a : Int) * 2 ^ s = ((a * 2 ^ s : Nat) : Int) by simp, wrapUk hs h]
theorem bin_shrU {yk : IntKind} {s : Nat} (hb : s ≤ k.bits) : bin P .shr t x y (.int k (a : Int)) (.int yk (s : Int)) = some (.int k ((a / 2 ^ s : Nat) : Int)) := by
  rw [bin_shr (by omega)]
  have : min (s : Int).toNat k.bits = s := by rw [Int.toNat_natCast]; omega
  rw [this, Int.fdiv_eq_ediv_of_nonneg _ (by have : (0 : Int) < 2 ^ s := Int.pow_pos (by omega); omega)]
  simp
theorem or_join {s : Nat} (hb : b < 2 ^ s) : (a * 2 ^ s) ||| b = a * 2 ^ s + b := by
  have := Nat.two_pow_add_eq_or_of_lt (i := s) (b := b) hb a
  rw [Nat.mul_comm (2 ^ s) a] at this
  exact this.symm
end
section
variable {α : Type} {k : Nat} {enc : α → List Value}
/-- A slice cut at both ends. -/
theorem slice_both {t e : TypeId} {k1 k2 : IntKind} {σ : AHeap} {v : Value} {A : List α} (hk : 0 < k) (ht : P.underlying t = some (.slice e)) (hs : sizeOf' P e = some k) (h : SlAt σ e k enc v A) {i j : Nat} (hij : i ≤ j) (hj : j ≤ A.length) :
    ∃ v', sliceOp P t v (some (.int k1 (i : Int))) (some (.int k2 (j : Int))) none σ = some v' ∧ SlAt σ e k enc v' ((A.take j).drop i) ∧ ∀ b ∈ blks v', b ∈ blks v := by
  have ub : ∀ {kk : IntKind} {n y : Nat}, n ≤ y → ubound (.int kk (n : Int)) y = some n := fun {kk n y} hy => by unfold ubound natOf; simp [Nat.ble_eq_true_of_le hy]
  rcases h with ⟨rfl, rfl⟩ | ⟨a, q, rfl, hq, rfl⟩ | ⟨b, o, cap, g, rfl, h2, h3, h4⟩
  · obtain rfl : j = 0 := by simpa using hj
    obtain rfl : i = 0 := by omega
    exact ⟨.slice none 0 0, by simp only [sliceOp, ht, hs, bounds, ub (Nat.le_refl 0), lowB]; try rfl, .inl ⟨rfl, rfl⟩, fun b hb => hb⟩
  · obtain rfl : j = 0 := by simpa using hj
    obtain rfl : i = 0 := by omega
    refine ⟨exactEmpty a, ?_, .inr (.inl ⟨{ a with spot := some 0 }, 0, rfl, rfl, rfl⟩), fun b hb => by simpa [exactEmpty, blks] using hb⟩
    simp only [sliceOp, ht, hs, bounds, ub (Nat.le_refl 0), lowB, hq]; try rfl
  · obtain ⟨n, c, hg, hc⟩ := h4
    have hz : (cap.beq i = true) ↔ cap = i := ⟨fun w => Nat.eq_of_beq_eq_true w, fun w => by rw [w, Nat.beq_refl]⟩
    have hgd : (!g || e.beq e) = true := by rw [Nat.beq_refl, Bool.or_true]
    have hop : sliceOp P t (.slice (some ⟨b, o, none⟩) A.length cap) (some (.int k1 (i : Int))) (some (.int k2 (j : Int))) none σ = some (sliceRow k i j cap false g ⟨b, o, none⟩) := by
      simp only [sliceOp, ht, hs, Nat.ble_eq_true_of_le h2, bounds, ub (show j ≤ cap by omega), lowB, ub hij, hg, hgd, Option.isSome_none]
    by_cases hci : cap = i
    · have hb : cap.beq i = true := hz.2 hci
      have hij' : j = i := by omega
      subst hij'
      have hA : (A.take j).drop j = [] := List.drop_of_length_le (by rw [List.length_take]; omega)
      rw [hA]
      cases g with
      | false => exact ⟨_, by rw [hop]; simp only [sliceRow, hb]; rfl, .inr (.inl ⟨_, 0, rfl, rfl, rfl⟩), fun c hc => by simpa [exactEmpty, blks] using hc⟩
      | true =>
        refine ⟨.slice (some ⟨b, o + j * k, none⟩) 0 0, by rw [hop]; simp only [sliceRow, hb, add_none]; rfl, .inr (.inr ⟨b, o + j * k, 0, true, rfl, Nat.le_refl _, h3, n, c, hg, ?_, ?_⟩), fun c hc => by simpa [blks] using hc⟩
        · intro i' x hx; simp at hx
        · intro i' hi'; omega
    · have hb : cap.beq i = false := Bool.eq_false_iff.2 fun w => hci (hz.1 w)
      refine ⟨.slice (some ⟨b, o + i * k, none⟩) (j - i) (cap - i), by rw [hop]; simp only [sliceRow, hb, add_none], .inr (.inr ⟨b, o + i * k, cap - i, g, by rw [List.length_drop, List.length_take, Nat.min_eq_left hj], by rw [List.length_drop, List.length_take]; omega, h3, ?_⟩), fun c hc => by simpa [blks] using hc⟩
      have hd := ArrAt.drop (enc := enc) ⟨n, c, hg, hc⟩ (show i ≤ cap by omega)
      obtain ⟨n', c', hg', hc1, hc2⟩ := hd
      rw [hg] at hg'
      injection hg' with hg'
      injection hg' with hn' hc' 
      subst hn' hc'
      refine ⟨n, c, hg, fun q x hx => ?_, hc2⟩
      refine hc1 q x ?_
      rw [List.getElem?_drop, List.getElem?_take] at hx
      split at hx
      · rw [List.getElem?_drop]; exact hx
      · cases hx
end
end Go.AE
namespace Go.AE
variable {P : Program}
section
variable {t : TypeId} {x y : Operand} {yk : IntKind} {a b : Nat}
theorem shl8_16 (h : a < 256) : bin P .shl t x y (.int .u16 (a : Int)) (.int yk 8) = some (.int .u16 ((a * 256 : Nat) : Int)) := bin_shlU (s := 8) rfl (by decide) (by show a * 256 < 65536; omega)
theorem shl16_32 (h : a < 65536) : bin P .shl t x y (.int .u32 (a : Int)) (.int yk 16) = some (.int .u32 ((a * 65536 : Nat) : Int)) := bin_shlU (s := 16) rfl (by decide) (by show a * 65536 < 4294967296; omega)
theorem shr8_16 : bin P .shr t x y (.int .u16 (a : Int)) (.int yk 8) = some (.int .u16 ((a / 256 : Nat) : Int)) := bin_shrU (s := 8) (by decide)
theorem shr4_8 : bin P .shr t x y (.int .u8 (a : Int)) (.int yk 4) = some (.int .u8 ((a / 16 : Nat) : Int)) := bin_shrU (s := 4) (by decide)
theorem shr16_64 : bin P .shr t x y (.int .u64 (a : Int)) (.int yk 16) = some (.int .u64 ((a / 65536 : Nat) : Int)) := bin_shrU (s := 16) (by decide)
theorem or_16 (ha : a < 65536) (hb : b < 65536) : bin P .or t x y (.int .u16 (a : Int)) (.int .u16 (b : Int)) = some (.int .u16 ((a ||| b : Nat) : Int)) := bin_orU rfl ha hb
theorem or_32 (ha : a < 4294967296) (hb : b < 4294967296) : bin P .or t x y (.int .u32 (a : Int)) (.int .u32 (b : Int)) = some (.int .u32 ((a ||| b : Nat) : Int)) := bin_orU rfl ha hb
theorem and_16 (ha : a < 65536) (hb : b < 65536) : bin P .and t x y (.int .u16 (a : Int)) (.int .u16 (b : Int)) = some (.int .u16 ((a &&& b : Nat) : Int)) := bin_andU rfl ha hb
theorem and15_8 (ha : a < 256) : bin P .and t x y (.int .u8 (a : Int)) (.int .u8 15) = some (.int .u8 ((a % 16 : Nat) : Int)) := by
  have := bin_andU (P := P) (t := t) (x := x) (y := y) (k := .u8) (b := 15) rfl ha (by decide)
  rw [show a &&& 15 = a % 16 from Nat.and_two_pow_sub_one_eq_mod a 4] at this
  exact this
theorem and8191_16 (ha : a < 65536) : bin P .and t x y (.int .u16 (a : Int)) (.int .u16 8191) = some (.int .u16 ((a % 8192 : Nat) : Int)) := by
  have := bin_andU (P := P) (t := t) (x := x) (y := y) (k := .u16) (b := 8191) rfl ha (by decide)
  rw [show a &&& 8191 = a % 8192 from Nat.and_two_pow_sub_one_eq_mod a 13] at this
  exact this
theorem and65535_64 (ha : a < 18446744073709551616) : bin P .and t x y (.int .u64 (a : Int)) (.int .u64 65535) = some (.int .u64 ((a % 65536 : Nat) : Int)) := by
  have := bin_andU (P := P) (t := t) (x := x) (y := y) (k := .u64) (b := 65535) rfl ha (by decide)
  rw [show a &&& 65535 = a % 65536 from Nat.and_two_pow_sub_one_eq_mod a 16] at this
  exact this
theorem wrapU16 (h : a < 65536) : IntKind.u16.wrap (a : Int) = (a : Int) := wrapUk rfl h
theorem wrapU32 (h : a < 4294967296) : IntKind.u32.wrap (a : Int) = (a : Int) := wrapUk rfl h
theorem not_nat16 (m : Nat) (h : m < 65536) : 65535 ^^^ m = 65535 - m := by
  have e : 65535 - m = 2 ^ 16 - (m + 1) := by omega
  rw [e]
  refine Nat.eq_of_testBit_eq fun i => ?_
  rw [Nat.testBit_xor, Nat.testBit_two_pow_sub_succ (by omega), show (65535 : Nat) = 2 ^ 16 - 1 by decide, Nat.testBit_two_pow_sub_one]
  by_cases hi : i < 16
  · simp [hi]
  · have : m.testBit i = false := Nat.testBit_lt_two_pow (Nat.lt_of_lt_of_le h (by rw [show 65536 = 2 ^ 16 by decide]; exact Nat.pow_le_pow_right (by decide) (by omega)))
    simp [hi, this]
theorem not_16 (h : a < 65536) : un P .xor (.int .u16 (a : Int)) = some (.int .u16 ((65535 - a : Nat) : Int)) := by
  have hmax : IntKind.u16.max = ((65535 : Nat) : Int) := rfl
  have e : (BitVec.ofInt IntKind.u16.bits ((65535 : Nat) : Int) ^^^ BitVec.ofInt IntKind.u16.bits (a : Int)).toNat = 65535 - a := by
    rw [BitVec.toNat_xor, toNat_ofInt (m := 0) (show 65535 < 2 ^ IntKind.u16.bits by decide), toNat_ofInt (m := 0) h, not_nat16 a h]
  have hsg : IntKind.u16.signed = false := rfl
  simp only [un, atom, Op.unary, hsg, Bool.false_eq_true, if_false, hmax, Op.intBits, pureP_pure, e]
  rw [wrapUk rfl (show 65535 - a < 2 ^ IntKind.u16.bits by show _ < 65536; omega)]
  rfl
end
end Go.AE
namespace Go.AE
theorem W_of_all {α : Type} {x : Option α} {r : α} (h : ∀ Q : α → Prop, Q r → W x Q) (Q : α → Prop) : W x Q = Q r := by
  obtain ⟨r', h1, h2⟩ := h (fun q => q = r) rfl
  subst h2
  rw [h1, W_some]
end Go.AE
namespace Go.AE
/-- A loop's block, cut where it ends. -/
theorem W_cut2 {id : Nat} {x : Option (AExit × AFr × AHeap)} {K : AExit × AFr × AHeap → Prop} (R : AFr → AHeap → Prop) (h1 : W x fun r => ∃ fr σ, r = (.exit id, fr, σ) ∧ R fr σ) (h2 : ∀ fr σ, R fr σ → K (.normal, fr, σ)) : W x (KBlk id K) :=
  h1.mono fun r ⟨fr, σ, e, h⟩ => by subst e; rw [KBlk_exit, if_pos rfl]; exact h2 fr σ h
end Go.AE
namespace Go.AE
variable {P : Program}
theorem rs_ctt {fn : Func} {fr : AFr} {σ : AHeap} {a t u w : Nat} (h : fn.results = #[.cell a t, .tmp u, .tmp w]) : results' P fn fr σ = (loadC P t (fr.at_ a) σ).map fun v => .tuple #[v, fr.at_ u, fr.at_ w] := by
  have : resOne P fr σ (.cell a t) = loadC P t (fr.at_ a) σ := by
    simp only [resOne, loadC]
    generalize fr.at_ a = v
    cases v <;> rfl
  unfold results'
  rw [h]
  simp only [resAll, this, resOne_tmp]
  cases loadC P t (fr.at_ a) σ <;> rfl
end Go.AE
namespace Go.AE
theorem idx_at {k : IntKind} (n : Nat) {len : Nat} (h : n < len) : idx (.int k (n : Int)) len = some n := by unfold idx natOf; simp [h]
end Go.AE
namespace Go.AE
variable {P : Program}
end Go.AE
end
