import Derived.Test.YtjdpoliamcnkbaaDoorReads
import Derived.Test.YtjdpoliamcnkbaaDoorBytes
import Derived.ChangeSlices
namespace Go.Proofs.YtjdpoliamcnkbaaDoor.T
open Go.RowKit Go.ChangeShapes Go.Proofs.YtjdpoliamcnkbaaDoorW.PrintWords
set_option linter.unusedVariables false
set_option maxRecDepth 100000

/-- A []byte argument, opened: what it reads. -/
theorem bytes_arg {H : Type} {enc : TypeId × Value → H} {P : Program} {W : World} {base : Nat} {sp : Nat → Bool} {held : Bool} {t e : TypeId} {d : DataW H} {A : Option Addr} {len cap : Nat} {ps : List MemPlace}
    (hu : P.underlying t = some (.slice e)) (he : P.underlying e = some (.int .u8)) (hc : P.cellsOf e = 1) (h : DataW.Trod enc P W base sp held t (.slice A len cap) d ps) :
    ∃ xs, ReadsInt W .u8 A len xs ∧ Bytes xs ∧ len ≤ cap := by
  obtain ⟨fuel, hf⟩ := h
  have hf' : DataW.trod enc P W base sp held fuel t [.slice A len cap] = some (d, ps) := by simpa [Value.cells] using hf
  rcases Go.ChangeShapes.open_ints hu he hc hf' with ⟨e, _⟩ | ⟨a, len', cap', zs, e, hb, hl, hm, hz, hx, hcell, hwf⟩
  · simp only [List.cons.injEq, Value.slice.injEq, and_true] at e
    obtain ⟨rfl, rfl, rfl⟩ := e
    exact ⟨[], ⟨rfl, by simp, fun h => absurd h (Nat.lt_irrefl 0)⟩, fun x hx => (by cases hx), Nat.le_refl _⟩
  · simp only [List.cons.injEq, Value.slice.injEq, and_true] at e
    obtain ⟨rfl, rfl, rfl⟩ := e
    have hzl : len ≤ zs.length := by rw [hz]; split <;> omega
    refine ⟨zs.take len, ⟨by rw [List.length_take]; omega, by have hmm := hm; unfold maxLen at hmm; omega, fun _ => ⟨a, rfl, fun j hj => ?_⟩⟩, fun x hx => ?_, hl⟩
    · rw [hcell j (by omega)]
      simp [List.getD_eq_getElem?_getD, hj]
    · have := hwf x (List.mem_of_mem_take hx)
      simp [Lit.wf, IntKind.min, IntKind.max, IntKind.bits, IntKind.signed] at this
      omega
end Go.Proofs.YtjdpoliamcnkbaaDoor.T
