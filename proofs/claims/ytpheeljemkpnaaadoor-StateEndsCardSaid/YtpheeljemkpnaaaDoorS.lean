import Derived.Test.YtpheeljemkpnaaaDoorR
import Derived.Test.YtpheeljemkpnaaaDoorG
namespace Go.Proofs.YtpheeljemkpnaaaDoor.AW
open Go.BigFrame Go.RowKit Go.ChangeShapes Go.Proofs.YtpheeljemkpnaaaDoorW.PrintWords
set_option linter.unusedVariables false
set_option maxRecDepth 100000
theorem str_at {H : Type} {enc : TypeId × Value → H} {P : Program} {w : World} {base : Nat} {sp : Nat → Bool} {held : Bool} {fuel : Nat} {t : TypeId} {cs : List Value} {z : List UInt8} {p : List MemPlace} (ht : P.underlying t = some .string)
    (h : DataW.trod enc P w base sp held fuel t cs = some (.lit (.string z), p)) : cs = [.string ⟨z.toArray⟩] := by
  obtain ⟨s, rfl, hx, _⟩ := DataW.trod_string ht h
  obtain ⟨hx1, _⟩ := Prod.mk.inj hx
  injection hx1 with h1
  injection h1 with h2
  subst h2
  rfl
theorem ticx_of {l : List (String × DataW Unit)} {W : World} {ps : List MemPlace} (h : DataW.LaidVars Tryd.prog W l ps) (hm : ("toll/tcpstate.ticks", Rows.laid_toll_tcpstate_ticks) ∈ l) : Ticx W := by
  obtain ⟨g, t, cs, fuel, p, hg, ht, hv, hd⟩ := laid_at h hm
  obtain rfl := Option.some.inj ((show Tryd.prog.globalNamed "toll/tcpstate.ticks" = some 2 by kernel_rfl).symm.trans hg)
  obtain rfl := Option.some.inj ((show (Tryd.prog.globals[2]?).map (·.type) = some 45 by kernel_rfl).symm.trans ht)
  have hd' : DataW.trod (fun _ => ()) Tryd.prog W 0 (fun _ => true) false fuel 45 cs.toList = some (.agg (ticksL.map fun z => .lit (.int .i64 z)), p) := hd
  refine ⟨fun s h1 => ?_⟩
  have e1 : ∀ s, s < 10 → ticksL[s]? = some (tickN s) := by decide
  obtain ⟨m1, q1, d1⟩ := arr_at (n := 10) (e := 2) Tryd.underlying45 hd' s (.lit (.int .i64 (tickN s))) (by rw [List.getElem?_map, e1 s h1]; rfl)
  have := int_at Tryd.underlying2 d1
  rw [show Tryd.prog.cellsOf 2 = 1 by kernel_rfl] at this
  have hc := World.var?_cell hg hv s
  rw [hc]
  have h0 := congrArg (·[0]?) this
  simp only [List.getElem?_take, List.getElem?_drop, List.getElem?_cons_zero] at h0
  rw [if_pos (by omega)] at h0
  rw [← Array.getElem?_toList, ← h0]
  congr 1
  omega
theorem txts_of {l : List (String × DataW Unit)} {W : World} {ps : List MemPlace} (h : DataW.LaidVars Tryd.prog W l ps) (hm : ("toll/tcpstate.texts", Rows.laid_toll_tcpstate_texts) ∈ l) : Txts W := by
  obtain ⟨g, t, cs, fuel, p, hg, ht, hv, hd⟩ := laid_at h hm
  obtain rfl := Option.some.inj ((show Tryd.prog.globalNamed "toll/tcpstate.texts" = some 3 by kernel_rfl).symm.trans hg)
  obtain rfl := Option.some.inj ((show (Tryd.prog.globals[3]?).map (·.type) = some 46 by kernel_rfl).symm.trans ht)
  have hd' : DataW.trod (fun _ => ()) Tryd.prog W 0 (fun _ => true) false fuel 46 cs.toList = some (.agg (textsL.map fun z => .lit (.string z.data.toList)), p) := hd
  refine ⟨fun s h1 => ?_⟩
  have e1 : ∀ s, s < 10 → textsL[s]? = some (textN s) := by decide
  obtain ⟨m1, q1, d1⟩ := arr_at (n := 10) (e := 9) Tryd.underlying46 hd' s (.lit (.string (textN s).data.toList)) (by rw [List.getElem?_map, e1 s h1]; rfl)
  have := str_at Tryd.underlying9 d1
  rw [show Tryd.prog.cellsOf 9 = 1 by kernel_rfl] at this
  have hc := World.var?_cell hg hv s
  rw [hc]
  have h0 := congrArg (·[0]?) this
  simp only [List.getElem?_take, List.getElem?_drop, List.getElem?_cons_zero] at h0
  rw [if_pos (by omega)] at h0
  rw [← Array.getElem?_toList]
  have e2 : (⟨(textN s).data.toList.toArray⟩ : ByteArray) = textN s := by simp
  rw [e2] at h0
  rw [← h0]
  congr 1
  omega
end Go.Proofs.YtpheeljemkpnaaaDoor.AW
