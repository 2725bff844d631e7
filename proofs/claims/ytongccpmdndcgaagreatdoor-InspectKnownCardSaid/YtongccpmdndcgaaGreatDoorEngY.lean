/- What is told beside the text: a table of contracts. -/
import Derived.Test.YtongccpmdndcgaaGreatDoorEngX
import Derived.Lib.Repeat
namespace Go.AE
set_option linter.unusedVariables false
set_option linter.unusedSimpArgs false
open Go.RowKit
variable {P : Program} {ρ : Ren} {σ : AHeap} {w : World}

theorem Rel.below (h : Rel P ρ σ w) {w' : World} (hb : Below w.heap.size w w') : Rel P ρ σ w' :=
  ⟨h.dom, fun b m hm => Nat.lt_of_lt_of_le (h.lt b m hm) hb.size, fun b o hg => by obtain ⟨m, hm, ho⟩ := h.obj b o hg; exact ⟨m, hm, ho.of_heap (hb.block _ (h.lt b m hm))⟩, h.inj⟩
theorem Ext.below {w' : World} (hb : Below w.heap.size w w') : Ext ρ σ w ρ σ w' :=
  ⟨Ren.le_refl _, Nat.le_refl _, hb.size, hb.os, hb.tape, hb.output, fun k hk _ => hb.block k hk, fun _ _ h => h, fun _ _ => rfl, fun _ _ h _ => h⟩

/-- One function's contract, as the evaluator takes it. -/
def Told (P : Program) (gs : List Nat) (f : FuncId) (g : List Value → AHeap → Option (Value × AHeap)) : Prop :=
  ∀ args σ v σ', g args σ = some (v, σ') → ∀ ρ w args', Gl gs ρ → LR P ρ args args' → Rel P ρ σ w → Calls P f args'.toArray w (CallPost P ρ σ w v σ')
/-- A table of contracts. -/
def orcs : List (FuncId × (List Value → AHeap → Option (Value × AHeap))) → Orc
  | [], _ => none
  | (k, g) :: l, f => match k.beq f with
    | true => some g
    | false => orcs l f
theorem OrcS.nil {gs : List Nat} : OrcS P gs (orcs []) := fun f g h => by simp [orcs] at h
theorem OrcS.cons {gs : List Nat} {k : FuncId} {g : List Value → AHeap → Option (Value × AHeap)} {l : List (FuncId × (List Value → AHeap → Option (Value × AHeap)))} (h : Told P gs k g) (hl : OrcS P gs (orcs l)) : OrcS P gs (orcs ((k, g) :: l)) := fun f u hu => by
  rw [orcs] at hu
  cases hk : k.beq f with
  | true =>
    rw [hk] at hu
    simp only [Option.some.injEq] at hu
    subst hu
    obtain rfl : k = f := Nat.eq_of_beq_eq_true hk
    exact h
  | false => rw [hk] at hu; exact hl f u hu

/-- Words alone in, words alone out, and nothing turns. -/
def still (g : List Value → Option Value) (args : List Value) (σ : AHeap) : Option (Value × AHeap) := match args.all atom with
  | true => match g args with
    | some v => match atom v with
      | true => some (v, σ)
      | false => none
    | none => none
  | false => none
theorem Told.still {gs : List Nat} {f : FuncId} {g : List Value → Option Value} (h : ∀ args v, g args = some v → ∀ w, Calls P f args.toArray w fun e w' => e = .returned v ∧ Below w.heap.size w w') : Told P gs f (still g) := by
  intro args σ v σ' hs ρ w args' hG hl hR
  unfold AE.still at hs
  split at hs
  · rename_i ha
    split at hs
    · rename_i u hu
      split at hs
      · rename_i hat
        cases hs
        have he : args' = args := hl.eq_of fun x x' hx hr => hr.atom_inv (List.all_eq_true.1 ha x hx)
        subst he
        refine (h args' v hu w).mono fun e w' ⟨he, hb⟩ => ?_
        exact ⟨ρ, v, he, .atom hat, hR.below hb, .below hb⟩
      · cases hs
    · cases hs
  · cases hs

/-- strings.Repeat. -/
def repO : List Value → Option Value
  | [.string s, .int .i64 (.ofNat c)] => match c.ble 9223372036854775807 && (s.size * c).ble 140737488355328 with
    | true => some (.string ⟨(Lib.repeatL s.data.toList c).toArray⟩)
    | false => none
  | _ => none
theorem Told.repeat {gs : List Nat} {f : FuncId} (h : ∀ (s : ByteArray) (c : Nat) (w : World), c ≤ 9223372036854775807 → s.size * c ≤ 140737488355328 → Calls P f #[.string s, .int .i64 c] w fun e w' => e = .returned (.string ⟨(Lib.repeatL s.data.toList c).toArray⟩) ∧ Below w.heap.size w w') :
    Told P gs f (AE.still repO) := .still fun args v hv w => by
  unfold repO at hv
  split at hv
  · rename_i s c
    split at hv
    · rename_i hc
      cases hv
      simp only [Bool.and_eq_true, Nat.ble_eq] at hc
      exact h s c w hc.1 hc.2
    · cases hv
  · cases hv
end Go.AE
