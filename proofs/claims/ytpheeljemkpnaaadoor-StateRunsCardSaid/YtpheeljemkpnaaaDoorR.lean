import Derived.Test.YtpheeljemkpnaaaDoorRows
import Derived.Test.YtpheeljemkpnaaaDoorC
import Derived.ProofKit
import Derived.OpenShut
import Derived.LaidMore
import Derived.LaidSub
import Derived.Deep.Slices
import Derived.SizedLaws
namespace Go.Proofs.YtpheeljemkpnaaaDoor.AW
open Go.BigFrame Go.RowKit Go.ChangeShapes Go.Proofs.YtpheeljemkpnaaaDoorW.PrintWords
set_option linter.unusedVariables false
set_option maxRecDepth 100000

section
variable {H : Type} {enc : TypeId × Value → H} {P : Program} {w : World} {base : Nat} {sp : Nat → Bool} {held : Bool}

theorem laid_at {l : List (String × DataW Unit)} {n : String} {d : DataW Unit} : ∀ {ps : List MemPlace}, DataW.LaidVars P w l ps → (n, d) ∈ l →
    ∃ g t cs fuel p, P.globalNamed n = some g ∧ (P.globals[g]?).map (·.type) = some t ∧ w.var? P n = some cs ∧ DataW.trod (fun _ => ()) P w 0 (fun _ => true) false fuel t cs.toList = some (d, p) := by
  induction l with
  | nil => intro ps _ h; cases h
  | cons x r ih =>
    intro ps h hm
    obtain ⟨g, t, cs, fuel, p, q, h1, h2, h3, h4, h5, _⟩ := h
    rcases List.mem_cons.1 hm with e | hm
    · cases e
      exact ⟨g, t, cs, fuel, p, h1, h2, h3, h4⟩
    · exact ih h5 hm

theorem arr_at {fuel : Nat} {t e : TypeId} {n : Nat} {cs : List Value} {ds : List (DataW H)} {p : List MemPlace} (ht : P.underlying t = some (.array n e))
    (h : DataW.trod enc P w base sp held fuel t cs = some (.agg ds, p)) (i : Nat) (d : DataW H) (hi : ds[i]? = some d) :
    ∃ m q, DataW.trod enc P w base sp held m e ((cs.drop (i * P.cellsOf e)).take (P.cellsOf e)) = some (d, q) := by
  obtain ⟨xs, m, rfl, hx, hl, hn, hel⟩ := DataW.trod_array ht h
  obtain ⟨hx1, _⟩ := Prod.mk.inj hx
  cases hx1
  rw [List.getElem?_map] at hi
  cases hxi : xs[i]? with
  | none => rw [hxi] at hi; cases hi
  | some x =>
    rw [hxi] at hi
    cases hi
    have hlt : i < n := by rw [← hn]; exact (List.getElem?_eq_some_iff.1 hxi).1
    exact ⟨m, x.2, by rw [hel i hlt, hxi]⟩
theorem int_at {fuel : Nat} {t : TypeId} {k : IntKind} {cs : List Value} {z : Int} {p : List MemPlace} (ht : P.underlying t = some (.int k))
    (h : DataW.trod enc P w base sp held fuel t cs = some (.lit (.int k z), p)) : cs = [.int k z] := by
  obtain ⟨n, rfl, hx, _⟩ := DataW.trod_int ht h
  obtain ⟨hx1, _⟩ := Prod.mk.inj hx
  cases hx1
  rfl
end

theorem laid_vars {l : List (String × DataW Unit)} {W : World} (hp : (l.all fun x => x.2.handleName?.isNone) = true) (h : laidMetH Tryd.prog l W) : ∃ ps, DataW.LaidVars Tryd.prog W l ps := by
  rw [MakeChecks.laidMetH_plain _ _ _ hp] at h
  obtain ⟨ps, h, _⟩ := h
  exact ⟨ps, h⟩

def agg3 {H : Type} (T : List (List (List Int))) : DataW H := .agg (T.map fun r => .agg (r.map fun s => .agg (s.map fun z => .lit (.int .i64 z))))
theorem table_is {H : Type} : (Rows.laid_toll_tcpstate_table : DataW H) = agg3 T3 := rfl

theorem T3_1 : ∀ s, s < 10 → T3[s]? = some (T3.getD s []) := by decide
theorem T3_2 : ∀ s, s < 10 → ∀ side, side < 2 → (T3.getD s [])[side]? = some ((T3.getD s []).getD side []) := by decide
theorem T3_3 : ∀ s, s < 10 → ∀ side, side < 2 → ∀ k, k < 6 → ((T3.getD s []).getD side [])[k]? = some (at3 s side k) := by decide

theorem c40 : Tryd.prog.cellsOf 40 = 12 := by kernel_rfl
theorem c38 : Tryd.prog.cellsOf 38 = 6 := by kernel_rfl
theorem c3 : Tryd.prog.cellsOf 3 = 1 := by kernel_rfl
theorem c24 : Tryd.prog.cellsOf 24 = 2 := by kernel_rfl

theorem tabs_of {l : List (String × DataW Unit)} {W : World} {ps : List MemPlace} (h : DataW.LaidVars Tryd.prog W l ps) (hm : ("toll/tcpstate.table", Rows.laid_toll_tcpstate_table) ∈ l) : Tabs W := by
  obtain ⟨g, t, cs, fuel, p, hg, ht, hv, hd⟩ := laid_at h hm
  obtain rfl := Option.some.inj ((show Tryd.prog.globalNamed "toll/tcpstate.table" = some 1 by kernel_rfl).symm.trans hg)
  obtain rfl := Option.some.inj ((show (Tryd.prog.globals[1]?).map (·.type) = some 41 by kernel_rfl).symm.trans ht)
  refine ⟨fun s side k h1 h2 h3 => ?_⟩
  have e3 := T3_3 s h1 side h2 k h3
  have e2 := T3_2 s h1 side h2
  have e1 := T3_1 s h1
  rw [table_is] at hd
  obtain ⟨m1, q1, d1⟩ := arr_at Tryd.underlying41 hd s (.agg ((T3.getD s []).map fun s => .agg (s.map fun z => .lit (.int .i64 z)))) (by rw [List.getElem?_map, e1]; rfl)
  obtain ⟨m2, q2, d2⟩ := arr_at (n := 2) (e := 38) (by kernel_rfl) d1 side (.agg (((T3.getD s []).getD side []).map fun z => .lit (.int .i64 z))) (by rw [List.getElem?_map, e2]; rfl)
  obtain ⟨m3, q3, d3⟩ := arr_at (n := 6) (e := 3) (by kernel_rfl) d2 k (.lit (.int .i64 (at3 s side k))) (by rw [List.getElem?_map, e3]; rfl)
  have := int_at Tryd.underlying3 d3
  rw [c40, c38, c3] at this
  have hc := World.var?_cell hg hv (s * 12 + side * 6 + k)
  rw [hc]
  have h0 := congrArg (·[0]?) this
  simp only [List.getElem?_take, List.getElem?_drop, List.getElem?_cons_zero] at h0
  rw [if_pos (by omega), if_pos (by omega), if_pos (by omega)] at h0
  rw [← Array.getElem?_toList, ← h0]
  congr 1
  omega

section
variable {H : Type} {enc : TypeId × Value → H} {W : World} {base : Nat} {sp : Nat → Bool} {held : Bool}
theorem part_at {fuel : Nat} {cs : List Value} {d : DataW H} {q : List MemPlace} (h : DataW.trod enc Tryd.prog W base sp held fuel 24 cs = some (d, q)) :
    ∃ (b : Bool) (f : Int), cs = [.bool b, .int .u8 f] ∧ d = .agg [.lit (.bool b), .lit (.int .u8 f)] ∧ 0 ≤ f ∧ f ≤ 255 := by
  obtain ⟨y0, y1, n, hx, hl, h0, h1⟩ := trod_struct2 Tryd.underlying24 h
  obtain ⟨hx1, _⟩ := Prod.mk.inj hx
  rw [c24] at hl
  match cs, hl with
  | [u0, u1], _ =>
    obtain ⟨b, e0, rfl⟩ := DataW.trod_bool Tryd.underlying4 h0
    obtain ⟨f, e1, rfl, hf⟩ := DataW.trod_int Tryd.underlying5 h1
    have k4 : Tryd.prog.cellsOf 4 = 1 := by kernel_rfl
    have k5 : Tryd.prog.cellsOf 5 = 1 := by kernel_rfl
    simp [k4, k5] at e0 e1
    subst e0 e1
    have := bounds_u8 hf
    exact ⟨b, f, rfl, hx1, by omega, by omega⟩

theorem parts_of {fuel : Nat} {A : Option Addr} {len cap : Nat} {d : DataW H} {q : List MemPlace} (h : DataW.trod enc Tryd.prog W base sp held fuel 22 [.slice A len cap] = some (d, q)) :
    ∃ ps : List (Bool × Int), ps.length = len ∧ Parts W A ps ∧ (∀ p ∈ ps, 0 ≤ p.2 ∧ p.2 ≤ 255) ∧
      (A = none ∧ len = 0 ∧ d = .nil ∨ ∃ a r, A = some a ∧ d = .slice (ps.map fun p => .agg [.lit (.bool p.1), .lit (.int .u8 p.2)]) r) := by
  rcases Deep.open_slice Tryd.underlying22 h with ⟨e, hx⟩ | ⟨a, len', cap', m, n, D, Pl, e, hb, hl, hm, hmm, hx, hel⟩
  · simp only [List.cons.injEq, Value.slice.injEq, and_true] at e
    obtain ⟨rfl, rfl, rfl⟩ := e
    obtain ⟨rfl, _⟩ := Prod.mk.inj hx
    exact ⟨[], rfl, fun i hi => absurd hi (by simp), (fun p hp => by cases hp), Or.inl ⟨rfl, rfl, rfl⟩⟩
  · simp only [List.cons.injEq, Value.slice.injEq, and_true] at e
    obtain ⟨rfl, rfl, rfl⟩ := e
    obtain ⟨hx1, _⟩ := Prod.mk.inj hx
    have hlm : len ≤ m := by rw [hmm]; split <;> omega
    obtain ⟨F, hF⟩ := Deep.choose_lt (α := Bool × Int) (p := fun i x => W.cell? (a.add (i * 2)) = some (.bool x.1) ∧ W.cell? ⟨(a.add (i * 2)).block, (a.add (i * 2)).off + 1, none⟩ = some (.int .u8 x.2) ∧ 0 ≤ x.2 ∧ x.2 ≤ 255 ∧ D i = .agg [.lit (.bool x.1), .lit (.int .u8 x.2)]) (n := len) (fun i hi => by
      obtain ⟨cs', h1, h2⟩ := hel i (by omega)
      obtain ⟨b, f, rfl, hD, f0, f1⟩ := part_at h2
      obtain ⟨_, _, hc⟩ := World.cells?_some h1
      rw [c24] at hc
      have g0 := hc 0 (by omega)
      have g1 := hc 1 (by omega)
      refine ⟨(b, f), ?_, ?_, f0, f1, hD⟩
      · simpa [Addr.add] using g0
      · have := g1
        unfold Addr.add at this ⊢
        simpa using this)
    refine ⟨(List.range len).map F, by simp, ?_, ?_, .inr ⟨a, (List.range (m - len)).map (fun j => D (len + j)), rfl, ?_⟩⟩
    · intro i hi
      simp at hi
      refine ⟨a, rfl, ?_, ?_⟩
      · simpa [List.getD, hi] using (hF i hi).1
      · simpa [List.getD, hi] using (hF i hi).2.1
    · intro p hp
      obtain ⟨i, hi, rfl⟩ := List.mem_map.1 hp
      have := hF i (List.mem_range.1 hi)
      exact ⟨this.2.2.1, this.2.2.2.1⟩
    · rw [hx1, List.map_map]
      congr 1
      refine List.map_congr_left fun i hi => ?_
      exact (hF i (List.mem_range.1 hi)).2.2.2.2
end

theorem opn_of {l : List (String × DataW Unit)} {W : World} {ps : List MemPlace} (h : DataW.LaidVars Tryd.prog W l ps) (hm : ("toll/tolllaw27.open", Rows.laid_toll_tolllaw27_open) ∈ l) : Opn W := by
  obtain ⟨g, t, cs, fuel, p, hg, ht, hv, hd⟩ := laid_at h hm
  obtain rfl := Option.some.inj ((show Tryd.prog.globalNamed "toll/tolllaw27.open" = some 0 by kernel_rfl).symm.trans hg)
  obtain rfl := Option.some.inj ((show (Tryd.prog.globals[0]?).map (·.type) = some 22 by kernel_rfl).symm.trans ht)
  have hc := World.var?_cell hg hv 0
  rcases Deep.open_slice Tryd.underlying22 hd with ⟨_, hx⟩ | ⟨a, len, cap, m, n, D, Pl, e, _⟩
  · obtain ⟨hx, _⟩ := Prod.mk.inj hx
    cases hx
  · rw [e] at hd
    have hcell : W.cell? ⟨0, 0, none⟩ = some (.slice (some a) len cap) := by
      rw [hc, ← Array.getElem?_toList, e]
      rfl
    obtain ⟨qs, hlen, hP, _, hD⟩ := parts_of hd
    rcases hD with ⟨h1, _⟩ | ⟨a', r, h1, h2⟩
    · cases h1
    · have h2' : (DataW.slice [.agg [.lit (.bool false), .lit (.int .u8 2)], .agg [.lit (.bool true), .lit (.int .u8 18)], .agg [.lit (.bool false), .lit (.int .u8 16)]] [] : DataW Unit) = .slice (qs.map fun p => .agg [.lit (.bool p.1), .lit (.int .u8 p.2)]) r := h2
      have hl : qs.length = 3 := by
        injection h2' with h3 _
        have := congrArg List.length h3
        simpa using this.symm
      have hq : qs = openPs := by
        injection h2' with h3 _
        match qs, hl with
        | [x, y, z], _ =>
          simp only [List.map_cons, List.map_nil, List.cons.injEq, DataW.agg.injEq, DataW.lit.injEq, Lit.bool.injEq, Lit.int.injEq, true_and, and_true] at h3
          obtain ⟨⟨a1, a2⟩, ⟨b1, b2⟩, c1, c2⟩ := h3
          obtain ⟨x1, x2⟩ := x
          obtain ⟨y1, y2⟩ := y
          obtain ⟨z1, z2⟩ := z
          simp only at a1 a2 b1 b2 c1 c2
          subst a1 a2 b1 b2 c1 c2
          rfl
      subst hq
      have : len = 3 := hlen.symm
      subst this
      exact ⟨a, cap, hcell, hP⟩

theorem slice_len {H : Type} {enc : TypeId × Value → H} {W : World} {base : Nat} {sp : Nat → Bool} {held : Bool} {P : Program} {ts : List TypeId} {ds : List (DataW H)} {j : Nat} {t e : TypeId} {d : DataW H} {A : Option Addr} {len cap : Nat} {ps : List MemPlace}
    (hsz : (DataW.weightsEach P ts ds).all (· ≤ reachBytes) = true) (ht : ts[j]? = some t) (hd : ds[j]? = some d) (hu : P.underlying t = some (.slice e)) (h : DataW.Trod enc P W base sp held t (.slice A len cap) d ps) :
    len * P.bytesOf e ≤ 140737488351232 := by
  obtain ⟨fuel, hf⟩ := h
  rcases Deep.open_slice hu (by simpa [Value.cells] using hf) with ⟨e, hx⟩ | ⟨a, len', cap', m, n, D, Pl, e, hb, hl, hm, hmm, hx, hel⟩
  · simp only [List.cons.injEq, Value.slice.injEq, and_true] at e
    obtain ⟨rfl, rfl, rfl⟩ := e
    simp
  · simp only [List.cons.injEq, Value.slice.injEq, and_true] at e
    obtain ⟨rfl, rfl, rfl⟩ := e
    obtain ⟨hx1, _⟩ := Prod.mk.inj hx
    subst hx1
    have z := sized_slice hsz ht hd hu
    simp only [List.length_map, List.length_range] at z
    exact Nat.le_trans (Nat.mul_le_mul_right _ (Nat.le_add_right _ _)) z
theorem slice_cap {H : Type} {enc : TypeId × Value → H} {W : World} {base : Nat} {sp : Nat → Bool} {held : Bool} {P : Program} {t e : TypeId} {d : DataW H} {A : Option Addr} {len cap : Nat} {ps : List MemPlace}
    (hu : P.underlying t = some (.slice e)) (h : DataW.Trod enc P W base sp held t (.slice A len cap) d ps) : len ≤ cap := by
  obtain ⟨fuel, hf⟩ := h
  rcases Deep.open_slice hu (by simpa [Value.cells] using hf) with ⟨e, hx⟩ | ⟨a, len', cap', m, n, D, Pl, e, hb, hl, hm, hmm, hx, hel⟩
  · simp only [List.cons.injEq, Value.slice.injEq, and_true] at e
    obtain ⟨rfl, rfl, rfl⟩ := e
    exact Nat.le_refl _
  · simp only [List.cons.injEq, Value.slice.injEq, and_true] at e
    obtain ⟨rfl, rfl, rfl⟩ := e
    exact hl
theorem b24 : Tryd.prog.bytesOf 24 = 2 := by kernel_rfl
end Go.Proofs.YtpheeljemkpnaaaDoor.AW
