/- A long run in pieces: a machine whose states can be written out. -/
import Derived.Test.YtongccpmdndcgaaGreatDoorEngYC
namespace Go.AE
set_option linter.unusedVariables false
set_option linter.unusedSimpArgs false
open Go.RowKit
variable {P : Program}

/-- What is left to do behind a piece of code. -/
inductive K where
  | done
  | seq (b : Code) (k : K)
  | block (id : Nat) (k : K)
  | loop (body : Code) (n : Nat) (k : K)
  | scope (k : K)
inductive St where
  | run (c : Code) (k : K) (fr : AFr) (σ : AHeap)
  | back (e : AExit) (k : K) (fr : AFr) (σ : AHeap)
  | fail
def leaf (P : Program) (call : CallF) (n : Nat) (c : Code) (k : K) (fr : AFr) (σ : AHeap) : St := match exec P call n c fr σ with
  | some (e, fr, σ) => .back e k fr σ
  | none => .fail
def mstep (P : Program) (call : CallF) (n : Nat) : St → St
  | .run c k fr σ => match c with
    | .seq a b => .run a (.seq b k) fr σ
    | .cond x a b => match fr.eval x with
      | .bool true => .run a k fr σ
      | .bool false => .run b k fr σ
      | _ => .fail
    | .block id body => .run body (.block id k) fr σ
    | .loop body => match n with
      | 0 => .fail
      | m + 1 => .run body (.loop body m k) fr σ
    | .scope body => .run body (.scope k) fr σ
    | c => leaf P call n c k fr σ
  | .back e k fr σ => match k with
    | .done => .back e .done fr σ
    | .seq b k => match e with
      | .normal => .run b k fr σ
      | e => .back e k fr σ
    | .block id k => match e with
      | .exit id' => match id'.beq id with
        | true => .back .normal k fr σ
        | false => .back (.exit id') k fr σ
      | e => .back e k fr σ
    | .loop body m k => match e with
      | .normal => match m with
        | 0 => .fail
        | m + 1 => .run body (.loop body m k) fr σ
      | e => .back e k fr σ
    | .scope k => .back e k fr σ
  | .fail => .fail
def mrun (P : Program) (call : CallF) (n : Nat) : Nat → St → St
  | 0, s => s
  | m + 1, s => match mstep P call n s with
    | .run c k fr σ => mrun P call n m (.run c k fr σ)
    | .back e k fr σ => mrun P call n m (.back e k fr σ)
    | .fail => .fail

/-- A part of a code, by its way down. -/
def codeAt : List Nat → Code → Code
  | [], c => c
  | 0 :: p, .seq a _ => codeAt p a
  | _ :: p, .seq _ b => codeAt p b
  | 0 :: p, .cond _ a _ => codeAt p a
  | _ :: p, .cond _ _ b => codeAt p b
  | _ :: p, .block _ b => codeAt p b
  | _ :: p, .loop b => codeAt p b
  | _ :: p, .scope b => codeAt p b
  | _, _ => .skip

/-! What a state comes to. -/
def kwp (P : Program) (Q : Exit → Act → World → Prop) : K → Exit → Act → World → Prop
  | .done => Q
  | .seq b k => Exit.then (b.wp P (kwp P Q k)) (kwp P Q k)
  | .block id k => Exit.inBlock id (kwp P Q k)
  | .loop body m k => Exit.then (Code.rounds P body (kwp P Q k) m) (kwp P Q k)
  | .scope k => Exit.noGoto (kwp P Q k)
def swp (P : Program) (Q : Exit → Act → World → Prop) : St → Act → World → Prop
  | .run c k _ _ => fun a w => c.wp P (kwp P Q k) a w
  | .back e k _ _ => fun a w => kwp P Q k e.up a w
  | .fail => fun _ _ => False
def St.fr : St → AFr
  | .run _ _ fr _ => fr
  | .back _ _ fr _ => fr
  | .fail => ⟨0, .leaf⟩
def St.σ : St → AHeap
  | .run _ _ _ σ => σ
  | .back _ _ _ σ => σ
  | .fail => ⟨0, .leaf⟩
def kOk (gs : List Nat) : K → Bool
  | .done => true
  | .seq b k => codeOk gs b && kOk gs k
  | .block _ k => kOk gs k
  | .loop b _ k => codeOk gs b && kOk gs k
  | .scope k => kOk gs k
def sOk (gs : List Nat) : St → Bool
  | .run c k _ _ => codeOk gs c && kOk gs k
  | .back _ k _ _ => kOk gs k
  | .fail => true
/-- From whatever stands for the state's frame and heap the rest comes to Q. -/
def Good (P : Program) (gs : List Nat) (ρ0 : Ren) (σ0 : AHeap) (w0 : World) (d0 : Act) (Q : Exit → Act → World → Prop) (s : St) : Prop :=
  s ≠ .fail ∧ ∀ ρ a w, FR P ρ s.fr a.tmps → a.defers = d0.defers → Gl gs ρ → Rel P ρ s.σ w → Ext ρ0 σ0 w0 ρ s.σ w → swp P Q s a w
section
variable {gs : List Nat} {ρ0 : Ren} {σ0 : AHeap} {w0 : World} {d0 : Act} {Q : Exit → Act → World → Prop}
theorem good_leaf {call : CallF} {n : Nat} (hmix : P.follows .mixedOrders = true) (hcall : CallS P gs call) {c : Code} {k : K} {fr : AFr} {σ : AHeap} (hok : codeOk gs c = true) (h : Good P gs ρ0 σ0 w0 d0 Q (leaf P call n c k fr σ)) : Good P gs ρ0 σ0 w0 d0 Q (.run c k fr σ) := by
  unfold leaf at h
  refine ⟨nofun, fun ρ a w hF hd hG hR hE => ?_⟩
  cases hx : exec P call n c fr σ with
  | none => rw [hx] at h; exact absurd rfl h.1
  | some r =>
    obtain ⟨e, fr', σ'⟩ := r
    rw [hx] at h
    refine exec_sound hmix hcall n c fr σ e fr' σ' hok hx ρ a w _ hF hG hR ?_
    intro ρ' a' w' hF' hd' hR' hE'
    exact h.2 ρ' a' w' hF' (hd'.trans hd) (hG.mono hE'.ren) hR' (hE.trans hE')
theorem good_step {call : CallF} {n : Nat} (hmix : P.follows .mixedOrders = true) (hcall : CallS P gs call) {s : St} (hok : sOk gs s = true) (h : Good P gs ρ0 σ0 w0 d0 Q (mstep P call n s)) : Good P gs ρ0 σ0 w0 d0 Q s := by
  cases s with
  | fail => exact h
  | back e k fr σ =>
    refine ⟨nofun, ?_⟩
    cases k with
    | done => exact h.2
    | scope k => cases e <;> exact h.2
    | seq b k => cases e <;> exact h.2
    | block id k =>
      cases e with
      | exit id' =>
        have h2 : Good P gs ρ0 σ0 w0 d0 Q (match id'.beq id with | true => .back .normal k fr σ | false => .back (.exit id') k fr σ) := h
        intro ρ a w hF hd hG hR hE
        show Exit.inBlock id (kwp P Q k) (.exit id') a w
        cases hq : id'.beq id with
        | true =>
          rw [hq] at h2
          simp only [Exit.inBlock, Nat.eq_of_beq_eq_true hq, if_true]
          exact h2.2 ρ a w hF hd hG hR hE
        | false =>
          rw [hq] at h2
          have hne : ¬ id' = id := fun q => by rw [q, Nat.beq_refl] at hq; cases hq
          simp only [Exit.inBlock, hne, if_false]
          exact h2.2 ρ a w hF hd hG hR hE
      | _ => exact h.2
    | loop body m k =>
      cases e with
      | normal =>
        cases m with
        | zero => exact absurd rfl h.1
        | succ m => exact h.2
      | _ => exact h.2
  | run c k fr σ =>
    simp only [sOk, Bool.and_eq_true] at hok
    cases c with
    | seq a b => exact ⟨nofun, fun ρ x w hF hd hG hR hE => wp_seq (h.2 ρ x w hF hd hG hR hE)⟩
    | cond x a b =>
      refine ⟨nofun, fun ρ y w hF hd hG hR hE => ?_⟩
      have hc := eval_sound (P := P) (x := x) (by have := hok.1; simp only [codeOk, Bool.and_eq_true] at this; exact this.1.1) hG fun t _ => hF.at_ t
      have h2 : Good P gs ρ0 σ0 w0 d0 Q (match fr.eval x with | .bool true => .run a k fr σ | .bool false => .run b k fr σ | _ => .fail) := h
      split at h2
      · rename_i ec
        rw [show AFr.eval (St.fr (.run (.cond x a b) k fr σ)) x = .bool true from ec] at hc
        exact wp_cond_true hc.bool_inv (h2.2 ρ y w hF hd hG hR hE)
      · rename_i ec
        rw [show AFr.eval (St.fr (.run (.cond x a b) k fr σ)) x = .bool false from ec] at hc
        exact wp_cond_false hc.bool_inv (h2.2 ρ y w hF hd hG hR hE)
      · exact absurd rfl h2.1
    | block id body => exact ⟨nofun, fun ρ x w hF hd hG hR hE => wp_block (h.2 ρ x w hF hd hG hR hE)⟩
    | loop body =>
      cases n with
      | zero => exact absurd rfl h.1
      | succ m => exact ⟨nofun, fun ρ x w hF hd hG hR hE => wp_loop_rounds (m + 1) (h.2 ρ x w hF hd hG hR hE)⟩
    | scope body => exact ⟨nofun, fun ρ x w hF hd hG hR hE => wp_scope_straight (h.2 ρ x w hF hd hG hR hE)⟩
    | skip => exact good_leaf (n := n) hmix hcall hok.1 h
    | label l => exact good_leaf (n := n) hmix hcall hok.1 h
    | region a b d => exact good_leaf (n := n) hmix hcall hok.1 h
    | exit l => exact good_leaf (n := n) hmix hcall hok.1 h
    | ret => exact good_leaf (n := n) hmix hcall hok.1 h
    | goto l => exact good_leaf (n := n) hmix hcall hok.1 h
    | refuse l => exact good_leaf (n := n) hmix hcall hok.1 h
    | rangeFunc f p a b => exact good_leaf (n := n) hmix hcall hok.1 h
theorem ok_step {call : CallF} {n : Nat} {s : St} (hok : sOk gs s = true) : sOk gs (mstep P call n s) = true := by
  cases s with
  | fail => rfl
  | back e k fr σ =>
    cases k with
    | done => rfl
    | scope k => exact hok
    | seq b k =>
      have hok : (codeOk gs b && kOk gs k) = true := hok
      have hok2 := hok
      rw [Bool.and_eq_true] at hok2
      cases e with
      | normal => exact hok
      | exit i => exact hok2.2
      | ret => exact hok2.2
    | block id k =>
      cases e with
      | exit id' =>
        show sOk gs (match id'.beq id with | true => .back .normal k fr σ | false => .back (.exit id') k fr σ) = true
        cases id'.beq id <;> exact hok
      | _ => exact hok
    | loop body m k =>
      have hok : (codeOk gs body && kOk gs k) = true := hok
      have hok2 := hok
      simp only [Bool.and_eq_true] at hok2
      cases e with
      | normal =>
        cases m with
        | zero => rfl
        | succ m => show (codeOk gs body && (codeOk gs body && kOk gs k)) = true; simp [hok2.1, hok2.2]
      | _ => exact hok2.2
  | run c k fr σ =>
    have hok2 := hok
    simp only [sOk, Bool.and_eq_true] at hok2
    have lf : ∀ c, sOk gs (leaf P call n c k fr σ) = true := fun c => by
      unfold leaf; split
      · exact hok2.2
      · rfl
    cases c with
    | seq a b =>
      have := hok2.1
      simp only [codeOk, Bool.and_eq_true] at this
      show (codeOk gs a && (codeOk gs b && kOk gs k)) = true
      simp [this.1, this.2, hok2.2]
    | cond x a b =>
      have := hok2.1
      simp only [codeOk, Bool.and_eq_true] at this
      show sOk gs (match fr.eval x with | .bool true => .run a k fr σ | .bool false => .run b k fr σ | _ => .fail) = true
      split
      · show (codeOk gs a && kOk gs k) = true; simp [this.1.2, hok2.2]
      · show (codeOk gs b && kOk gs k) = true; simp [this.2, hok2.2]
      · rfl
    | block id body => exact hok
    | loop body =>
      cases n with
      | zero => rfl
      | succ m => show (codeOk gs body && (codeOk gs body && kOk gs k)) = true; have := hok2.1; simp only [codeOk] at this; simp [this, hok2.2]
    | scope body => exact hok
    | skip => exact lf Code.skip
    | label l => exact lf (.label l)
    | region a b d => exact lf (.region a b d)
    | exit l => exact lf (.exit l)
    | ret => exact lf Code.ret
    | goto l => exact lf (.goto l)
    | refuse l => exact lf (.refuse l)
    | rangeFunc f p a b => exact lf (.rangeFunc f p a b)
/-- A piece: from one written state to the next. -/
theorem good_run {call : CallF} {n : Nat} (hmix : P.follows .mixedOrders = true) (hcall : CallS P gs call) : ∀ (m : Nat) {s : St}, sOk gs s = true → Good P gs ρ0 σ0 w0 d0 Q (mrun P call n m s) → Good P gs ρ0 σ0 w0 d0 Q s
  | 0, _, _, h => h
  | m + 1, s, hok, h => by
    rw [mrun] at h
    refine good_step (n := n) hmix hcall hok ?_
    have hok2 := ok_step (P := P) (call := call) (n := n) hok
    cases hs : mstep P call n s with
    | run c k fr σ => rw [hs] at h hok2; exact good_run hmix hcall m hok2 h
    | back e k fr σ => rw [hs] at h hok2; exact good_run hmix hcall m hok2 h
    | fail => rw [hs] at h; exact h
/-- Blocks that are no more needed may be dropped, and slots forgotten stay. -/
def less (σ' σ : AHeap) : Prop := σ'.next = σ.next ∧ ∀ b o, σ'.get b = some o → σ.get b = some o
theorem Rel.less {ρ : Ren} {σ σ' : AHeap} {w : World} (h : Rel P ρ σ w) (hl : AE.less σ' σ) : Rel P ρ σ' w :=
  ⟨fun b hb => h.dom b (by rw [← hl.1]; exact hb), h.lt, fun b o hg => h.obj b o (hl.2 b o hg), fun b b' o o' m m' h1 h2 => h.inj b b' o o' m m' (hl.2 b o h1) (hl.2 b' o' h2)⟩
theorem Ext.less {ρ : Ren} {σ σ' : AHeap} {w : World} (h : Ext ρ0 σ0 w0 ρ σ w) (hl : AE.less σ' σ) : Ext ρ0 σ0 w0 ρ σ' w :=
  ⟨h.ren, by rw [hl.1]; exact h.next, h.size, h.os, h.tape, h.output, h.frame, fun k hk ⟨b, o, m, hg, hr, hm, hb⟩ => h.fresh k hk ⟨b, o, m, hl.2 b o hg, hr, hm, hb⟩, h.old, fun b o hg hr => h.ro b o (hl.2 b o hg) hr⟩
theorem good_less_run {c : Code} {k : K} {fr : AFr} {σ σ' : AHeap} (hl : less σ' σ) (h : Good P gs ρ0 σ0 w0 d0 Q (.run c k fr σ')) : Good P gs ρ0 σ0 w0 d0 Q (.run c k fr σ) :=
  ⟨nofun, fun ρ a w hF hd hG hR hE => h.2 ρ a w hF hd hG (hR.less hl) (hE.less hl)⟩
theorem good_less_back {e : AExit} {k : K} {fr : AFr} {σ σ' : AHeap} (hl : less σ' σ) (h : Good P gs ρ0 σ0 w0 d0 Q (.back e k fr σ')) : Good P gs ρ0 σ0 w0 d0 Q (.back e k fr σ) :=
  ⟨nofun, fun ρ a w hF hd hG hR hE => h.2 ρ a w hF hd hG (hR.less hl) (hE.less hl)⟩
/-- Which blocks are kept. -/
inductive Kp where
  | all
  | none
  | node (l : Kp) (b : Bool) (r : Kp)
def prune : Kp → Tr AObj → Tr AObj
  | .all, t => t
  | .none, _ => .leaf
  | .node l b r, .node tl v tr => .node (prune l tl) (match b with | true => v | false => Option.none) (prune r tr)
  | .node _ _ _, .leaf => .leaf
theorem prune_get : ∀ (k : Kp) (t : Tr AObj) (n : Nat) (o : AObj), (prune k t).get n = some o → t.get n = some o
  | .all, t, n, o, h => h
  | .none, t, n, o, h => by simp [prune] at h
  | .node l b r, .leaf, n, o, h => by simp [prune] at h
  | .node l b r, .node tl v tr, n, o, h => by
    simp only [prune] at h
    rw [Tr.get_node] at h
    rw [Tr.get_node]
    by_cases h0 : n = 0
    · rw [if_pos h0] at h ⊢
      cases b with
      | true => exact h
      | false => cases h
    · rw [if_neg h0] at h ⊢
      by_cases h1 : n % 2 = 1
      · rw [if_pos h1] at h ⊢; exact prune_get l tl _ o h
      · rw [if_neg h1] at h ⊢; exact prune_get r tr _ o h
def cut (k : Kp) : St → St
  | .run c q fr σ => .run c q fr ⟨σ.next, prune k σ.m⟩
  | .back e q fr σ => .back e q fr ⟨σ.next, prune k σ.m⟩
  | .fail => .fail
theorem good_cut {k : Kp} {s : St} (h : Good P gs ρ0 σ0 w0 d0 Q (cut k s)) : Good P gs ρ0 σ0 w0 d0 Q s := by
  cases s with
  | run c q fr σ => exact good_less_run (σ' := ⟨σ.next, prune k σ.m⟩) ⟨rfl, fun b o hg => prune_get k σ.m b o hg⟩ h
  | back e q fr σ => exact good_less_back (σ' := ⟨σ.next, prune k σ.m⟩) ⟨rfl, fun b o hg => prune_get k σ.m b o hg⟩ h
  | fail => exact h
/-- A PIECE OF A RUN: m steps from one written state to the next. -/
theorem good_piece {call : CallF} {n m : Nat} {k : Kp} {s t : St} (hmix : P.follows .mixedOrders = true) (hcall : CallS P gs call) (hok : sOk gs s = true) (hq : cut k (mrun P call n m s) = t) (h : Good P gs ρ0 σ0 w0 d0 Q t) : Good P gs ρ0 σ0 w0 d0 Q s :=
  good_run hmix hcall m hok (good_cut (by rw [hq]; exact h))
end
/-- A CLOSED FUNCTION, ITS RUN IN PIECES, OVER THE LISTED VARIABLES. -/
theorem closed_pieces {l : List (Nat × TypeId × List Value)} {next : Nat} {f : FuncId} {fn : Func} {c : Code} {b : Bool} {fr' : AFr} {σ' : AHeap} (hf : P.funcs[f]? = some fn) (hb : fn.body = some c) (hr : results' P fn fr' σ' = some (.bool b)) (w : World)
    (hn : ∀ x ∈ l, x.1 < next) (hl : ∀ x ∈ l, RoAt w x)
    (h : ∀ (ρ0 : Ren) (d0 : Act) (Q : Exit → Act → World → Prop), Good P (l.map (·.1)) ρ0 (roHeap next l) w d0 Q (.back .ret .done fr' σ') → Good P (l.map (·.1)) ρ0 (roHeap next l) w d0 Q (.run c .done ⟨fn.ntmps, .leaf⟩ (roHeap next l))) :
    Calls P f #[] w fun e w' => e = .returned (.bool b) ∧ Below w.heap.size w w' := by
  have hR : Rel P (roRen w l) (roHeap next l) w := .ro hn hl
  have hG : Gl (l.map (·.1)) (roRen w l) := fun g hg => by
    obtain ⟨x, hx, rfl⟩ := List.mem_map.1 hg
    obtain ⟨k, hk⟩ := roRen_at hl hx
    exact ⟨_, hk, rfl, rfl⟩
  refine calls_of_wp hf hb ?_
  have hF : FR P (roRen w l) ⟨fn.ntmps, .leaf⟩ (#[] ++ Array.replicate (fn.ntmps - (#[] : Array Value).size) undef) := by
    refine ⟨by simp, fun t => ?_⟩
    show VR P _ (((Tr.leaf : Tr Value).get t).getD undef) _
    have : ((#[] : Array Value) ++ Array.replicate (fn.ntmps - (#[] : Array Value).size) undef).getD t undef = undef := by
      rw [Array.getD_eq_getD_getElem?, Array.getElem?_append_right (by simp), Array.getElem?_replicate]
      split <;> rfl
    rw [this]
    exact .undef
  refine (h (roRen w l) _ _ ⟨nofun, fun ρ a w' hF' hd' hG' hR' hE' => ?_⟩).2 (roRen w l) _ w hF rfl hG hR (.refl _ _ _)
  obtain ⟨v', h1, h2⟩ := results_sound hR' hF' hr
  rw [h2.bool_inv] at h1
  refine ⟨hd', _, h1, rfl, hE'.os, hE'.tape, hE'.output, hE'.size, fun k hk => hE'.frame k hk fun ⟨b, o, m, hg, hr, _⟩ => ?_⟩
  obtain ⟨x, _, _, rfl⟩ := roHeap_get next l b o hg
  cases hr
end Go.AE
