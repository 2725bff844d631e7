import Derived.Test.YtjdpoliamcnkbaaDoorBytesArg
import Derived.OpenShut
namespace Go.Proofs.YtjdpoliamcnkbaaDoor.T
open Go.RowKit Go.ChangeShapes Go.WideShapes Go.Proofs.YtjdpoliamcnkbaaDoorW.PrintWords
set_option linter.unusedVariables false
set_option maxRecDepth 100000

theorem byte_wf {n : Int} (h : (Lit.int .u8 n).wf = true) : 0 ≤ n ∧ n ≤ 255 := by
  simp [Lit.wf, IntKind.min, IntKind.max, IntKind.bits, IntKind.signed] at h
  omega

/-- A []byte's cell, opened. -/
theorem bytes_cell {H : Type} {enc : TypeId × Value → H} {P : Program} {W : World} {base : Nat} {sp : Nat → Bool} {held : Bool} {t e : TypeId} {m : Nat} {v : Value} {y : DataW H × List MemPlace}
    (hu : P.underlying t = some (.slice e)) (he : P.underlying e = some (.int .u8)) (hc : P.cellsOf e = 1) (h : DataW.trod enc P W base sp held m t [v] = some y) :
    ∃ A n cap xs, v = .slice A n cap ∧ ReadsInt W .u8 A n xs ∧ Bytes xs ∧ n ≤ cap ∧ n ≤ 9223372036854775807 := by
  have key : ∃ A n cap, v = .slice A n cap ∧ n ≤ 9223372036854775807 := by
    rcases Go.ChangeShapes.open_ints hu he hc h with ⟨e, _⟩ | ⟨a, len', cap', zs, e, hb, hl, hm, _⟩
    · simp only [List.cons.injEq, and_true] at e
      exact ⟨none, 0, 0, e, by omega⟩
    · simp only [List.cons.injEq, and_true] at e
      exact ⟨some a, len', cap', e, by simp only [maxLen] at hm; omega⟩
  obtain ⟨A, n, cap, rfl, hn⟩ := key
  obtain ⟨xs, h1, h2, h3⟩ := bytes_arg hu he hc (d := y.1) (ps := y.2) (A := A) (len := n) (cap := cap) (h := ⟨m, by simpa [Value.cells] using h⟩)
  exact ⟨A, n, cap, xs, rfl, h1, h2, h3, hn⟩

/-- A message that came in, opened. -/
theorem msg_arg {H : Type} {enc : TypeId × Value → H} {W : World} {base : Nat} {sp : Nat → Bool} {held : Bool} {v : Value} {d : DataW H} {ps : List MemPlace}
    {base' : Nat} (ho : Value.okWide Tryd.prog W .any base' 25 v) (h : DataW.Trod enc Tryd.prog W base sp held 25 v d ps) :
    ∃ t c r0 r1 r2 r3 A n cap xs, v = .agg #[.int .u8 t, .int .u8 c, .int .u8 r0, .int .u8 r1, .int .u8 r2, .int .u8 r3, .slice A n cap] ∧ Bytes [t, c, r0, r1, r2, r3] ∧ ReadsInt W .u8 A n xs ∧ Bytes xs ∧ n ≤ cap ∧ n ≤ 9223372036854775807 := by
  obtain ⟨cs, rfl, hcs⟩ := okWide_struct Tryd.underlying25 ho
  rw [show Tryd.prog.cellsOf 25 = 7 by kernel_rfl] at hcs
  obtain ⟨fuel, hf⟩ := h
  have hf' : DataW.trod enc Tryd.prog W base sp held fuel 25 cs.toList = some (d, ps) := by simpa [Value.cells] using hf
  obtain ⟨c0, c1, c2, c3, c4, c5, c6, rfl⟩ : ∃ c0 c1 c2 c3 c4 c5 c6, cs = #[c0, c1, c2, c3, c4, c5, c6] := by
    rcases cs with ⟨l⟩
    rcases l with _ | ⟨c0, _ | ⟨c1, _ | ⟨c2, _ | ⟨c3, _ | ⟨c4, _ | ⟨c5, _ | ⟨c6, _ | ⟨c7, l⟩⟩⟩⟩⟩⟩⟩⟩
    all_goals first | (simp at hcs; done) | exact ⟨_, _, _, _, _, _, _, rfl⟩ | (simp at hcs; omega)
  obtain ⟨ys, m, rfl, hx, _, hlen, hfl⟩ := DataW.trod_struct Tryd.underlying25 hf'
  have one : ∀ i, i < 4 → ∃ y, ys[i]? = some y := fun i hi => ⟨ys[i]'(by rw [hlen]; exact hi), List.getElem?_eq_getElem _⟩
  have s5 : Tryd.prog.cellsOf 5 = 1 := by kernel_rfl
  have s4 : Tryd.prog.cellsOf 22 = 4 := by kernel_rfl
  have s3 : Tryd.prog.cellsOf 23 = 1 := by kernel_rfl
  have g0 : DataW.trod enc Tryd.prog W base sp held m 5 [c0] = ys[0]? := by
    have g := hfl 0 _ rfl
    change DataW.trod enc Tryd.prog W base sp held m 5 (List.take (Tryd.prog.cellsOf 5) [c0, c1, c2, c3, c4, c5, c6]) = _ at g
    rw [s5] at g
    exact g
  have g1 : DataW.trod enc Tryd.prog W base sp held m 5 [c1] = ys[1]? := by
    have g := hfl 1 _ rfl
    change DataW.trod enc Tryd.prog W base sp held m 5 (List.take (Tryd.prog.cellsOf 5) [c1, c2, c3, c4, c5, c6]) = _ at g
    rw [s5] at g
    exact g
  have g2 : DataW.trod enc Tryd.prog W base sp held m 22 [c2, c3, c4, c5] = ys[2]? := by
    have g := hfl 2 _ rfl
    change DataW.trod enc Tryd.prog W base sp held m 22 (List.take (Tryd.prog.cellsOf 22) [c2, c3, c4, c5, c6]) = _ at g
    rw [s4] at g
    exact g
  have g3 : DataW.trod enc Tryd.prog W base sp held m 23 [c6] = ys[3]? := by
    have g := hfl 3 _ rfl
    change DataW.trod enc Tryd.prog W base sp held m 23 (List.take (Tryd.prog.cellsOf 23) [c6]) = _ at g
    rw [s3] at g
    exact g
  obtain ⟨y0, e0⟩ := one 0 (by omega)
  obtain ⟨y1, e1⟩ := one 1 (by omega)
  obtain ⟨y2, e2⟩ := one 2 (by omega)
  obtain ⟨y3, e3⟩ := one 3 (by omega)
  rw [e0] at g0
  rw [e1] at g1
  rw [e2] at g2
  rw [e3] at g3
  obtain ⟨t, et, _, wt⟩ := DataW.trod_int Tryd.underlying5 g0
  obtain ⟨c, ec, _, wc⟩ := DataW.trod_int Tryd.underlying5 g1
  obtain ⟨xs4, m4, rfl, _, _, hl4, hel⟩ := DataW.trod_array Tryd.underlying22 g2
  have h0 : DataW.trod enc Tryd.prog W base sp held m4 5 [c2] = xs4[0]? := by
    have h := hel 0 (by omega)
    rw [s5] at h
    exact h
  have h1 : DataW.trod enc Tryd.prog W base sp held m4 5 [c3] = xs4[1]? := by
    have h := hel 1 (by omega)
    rw [s5] at h
    exact h
  have h2 : DataW.trod enc Tryd.prog W base sp held m4 5 [c4] = xs4[2]? := by
    have h := hel 2 (by omega)
    rw [s5] at h
    exact h
  have h3 : DataW.trod enc Tryd.prog W base sp held m4 5 [c5] = xs4[3]? := by
    have h := hel 3 (by omega)
    rw [s5] at h
    exact h
  rw [List.getElem?_eq_getElem (by omega)] at h0 h1 h2 h3
  obtain ⟨r0, er0, _, w0⟩ := DataW.trod_int Tryd.underlying5 h0
  obtain ⟨r1, er1, _, w1⟩ := DataW.trod_int Tryd.underlying5 h1
  obtain ⟨r2, er2, _, w2⟩ := DataW.trod_int Tryd.underlying5 h2
  obtain ⟨r3, er3, _, w3⟩ := DataW.trod_int Tryd.underlying5 h3
  obtain ⟨A, n, cap, xs, e6, hr, hb, hcap, hn⟩ := bytes_cell Tryd.underlying23 Tryd.underlying5 s5 g3
  simp only [List.cons.injEq, and_true] at et ec er0 er1 er2 er3
  subst et ec er0 er1 er2 er3 e6
  refine ⟨t, c, r0, r1, r2, r3, A, n, cap, xs, rfl, ?_, hr, hb, hcap, hn⟩
  intro x hx
  simp only [List.mem_cons, List.not_mem_nil, or_false] at hx
  rcases hx with rfl | rfl | rfl | rfl | rfl | rfl
  all_goals (apply byte_wf; assumption)
end Go.Proofs.YtjdpoliamcnkbaaDoor.T
