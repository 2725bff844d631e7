/- The listed variables of InspectKnown as rows that are only read. Condition: the variables hold what the text lays. -/
import Derived.Test.YtongccpmdndcgaaGreatDoorReads
import Derived.Test.YtongccpmdndcgaaGreatDoorEngYD
namespace Go.Proofs.YtongccpmdndcgaaGreatDoor.T
open Go.RowKit Go.ChangeShapes Go.AE
set_option linter.unusedVariables false
set_option maxRecDepth 100000
theorem float_at {H : Type} {enc : TypeId × Value → H} {P : Program} {w : World} {base : Nat} {sp : Nat → Bool} {held : Bool} {fuel : Nat} {t : TypeId} {k : FloatKind} {cs : List Value} {z : Nat} {p : List MemPlace} (ht : P.underlying t = some (.float k))
    (h : DataW.trod enc P w base sp held fuel t cs = some (.lit (.float k z), p)) : cs = [.float k z] := by
  cases fuel with
  | zero => simp [DataW.trod] at h
  | succ n =>
    unfold DataW.trod at h
    rw [ht] at h
    split at h <;> simp_all
theorem one_at {cs : List Value} {i : Nat} {v : Value} (h : (cs.drop i).take 1 = [v]) : cs[i]? = some v := by
  have : ((cs.drop i).take 1)[0]? = some v := by rw [h]; rfl
  simpa using this
theorem var_row {P : Program} {W : World} {n : String} {g : Nat} {cs : Array Value} (hg : P.globalNamed n = some g) (hv : W.var? P n = some cs) : ∃ e fz, W.heap[g]? = some (.cells cs e fz) := by
  simp only [World.var?, hg, Option.bind_some] at hv
  split at hv
  · rename_i c e fz h; cases hv; exact ⟨e, fz, h⟩
  · cases hv
theorem ahead_at {l : List (String × DataW Unit)} {W : World} {ps : List MemPlace} (h : DataW.LaidVars Tryz.prog W l ps) (hm : ("toll/arp.ahead", Rows.laid_toll_arp_ahead) ∈ l) : ∃ e, RoAt W (1, e, [.int .u8 0, .int .u8 1, .int .u8 8, .int .u8 0, .int .u8 6, .int .u8 4]) := by
  obtain ⟨g, t, cs, fuel, p, hg, ht, hv, hd⟩ := laid_at h hm
  obtain rfl := Option.some.inj ((show Tryz.prog.globalNamed "toll/arp.ahead" = some 1 by kernel_rfl).symm.trans hg)
  obtain rfl := Option.some.inj ((show (Tryz.prog.globals[1]?).map (·.type) = some 40 by kernel_rfl).symm.trans ht)
  obtain ⟨e, fz, hb⟩ := var_row (show Tryz.prog.globalNamed "toll/arp.ahead" = some 1 by kernel_rfl) hv
  have one : ∀ (i : Nat) (z : Int), ([.lit (.int .u8 0), .lit (.int .u8 1), .lit (.int .u8 8), .lit (.int .u8 0), .lit (.int .u8 6), .lit (.int .u8 4)] : List (DataW Unit))[i]? = some (.lit (.int .u8 z)) → cs.toList[i]? = some (.int .u8 z) := fun i z hi => by
    obtain ⟨m, q, hq⟩ := arr_at Tryz.underlying40 hd i _ hi
    rw [show Tryz.prog.cellsOf 5 = 1 by kernel_rfl, Nat.mul_one] at hq
    exact one_at (int_at Tryz.underlying5 hq)
  refine ⟨e, ⟨cs, fz, hb, fun i v hi => ?_⟩, by rfl⟩
  rw [← Array.getElem?_toList]
  match i, hi with
  | 0, hi => cases hi; exact one 0 0 rfl
  | 1, hi => cases hi; exact one 1 1 rfl
  | 2, hi => cases hi; exact one 2 8 rfl
  | 3, hi => cases hi; exact one 3 0 rfl
  | 4, hi => cases hi; exact one 4 6 rfl
  | 5, hi => cases hi; exact one 5 4 rfl
  | i + 6, hi => simp at hi
theorem free_at {l : List (String × DataW Unit)} {W : World} {ps : List MemPlace} (h : DataW.LaidVars Tryz.prog W l ps) (hm : ("toll/ports.free", Rows.laid_toll_ports_free) ∈ l) : ∃ e, RoAt W (0, e, [.float .f64 9218868437227405312, .float .f64 9218868437227405312]) := by
  obtain ⟨g, t, cs, fuel, p, hg, ht, hv, hd⟩ := laid_at h hm
  obtain rfl := Option.some.inj ((show Tryz.prog.globalNamed "toll/ports.free" = some 0 by kernel_rfl).symm.trans hg)
  obtain rfl := Option.some.inj ((show (Tryz.prog.globals[0]?).map (·.type) = some 26 by kernel_rfl).symm.trans ht)
  obtain ⟨e, fz, hb⟩ := var_row (show Tryz.prog.globalNamed "toll/ports.free" = some 0 by kernel_rfl) hv
  obtain ⟨xs, m, rfl, hx, hl, hn, hel⟩ := DataW.trod_struct Tryz.underlying26 hd
  have hx2 := (Prod.mk.inj hx).1
  injection hx2 with hx3
  have hn2 : xs.length = 2 := hn
  obtain ⟨⟨d0, q0⟩, ⟨d1, q1⟩, rfl⟩ : ∃ x0 x1, xs = [x0, x1] := by
    match xs, hn2 with
    | [x0, x1], _ => exact ⟨x0, x1, rfl⟩
  simp only [List.map_cons, List.map_nil, List.cons.injEq, and_true] at hx3
  obtain ⟨rfl, rfl⟩ := hx3
  have h0 := hel 0 _ rfl
  have h1 := hel 1 _ rfl
  rw [show Tryz.prog.cellsOf _ = 1 by kernel_rfl] at h0 h1
  have k0 := one_at (float_at Tryz.underlying24 h0)
  have k1 := one_at (float_at Tryz.underlying24 h1)
  refine ⟨e, ⟨cs, fz, hb, fun i v hi => ?_⟩, by rfl⟩
  rw [← Array.getElem?_toList]
  match i, hi with
  | 0, hi => cases hi; exact k0
  | 1, hi => cases hi; exact k1
  | i + 2, hi => simp at hi
end Go.Proofs.YtongccpmdndcgaaGreatDoor.T
