import Derived.Test.YtjdpoliamcnkbaaDoorReads
import Derived.Test.YtjdpoliamcnkbaaDoorIcmpKind
namespace Go.Proofs.YtjdpoliamcnkbaaDoor.T
open Go.RowKit Go.ChangeShapes Go.Maps
set_option linter.unusedVariables false
set_option maxRecDepth 100000
theorem kinds_of {l : List (String × DataW Unit)} {W : World} {ps : List MemPlace} (h : DataW.LaidVars Tryd.prog W l ps) (hm : ("toll/icmp.kinds", Rows.laid_toll_icmp_kinds) ∈ l) : Kinds W := by
  obtain ⟨g, t, cs, fuel, p, hg, ht, hv, hd⟩ := laid_at h hm
  obtain rfl := Option.some.inj ((show Tryd.prog.globalNamed "toll/icmp.kinds" = some 0 by kernel_rfl).symm.trans hg)
  obtain rfl := Option.some.inj ((show (Tryd.prog.globals[0]?).map (·.type) = some 62 by kernel_rfl).symm.trans ht)
  have hd' : DataW.trod (fun _ => ()) Tryd.prog W 0 (fun _ => true) false fuel 62 cs.toList = some (kindsD, p) := hd
  rcases WideElems.open_map Tryd.underlying62 hd' with ⟨_, hx⟩ | ⟨bm, es, clock, m, rfl, hcs, hb, _, F, hx⟩
  · simp [kindsD] at hx
  · simp only [Prod.mk.injEq] at hx
    have hown := World.ownsMap_of_fit (R := plainElem Tryd.prog 3) hb F (fun x _ z hz => elemAt_plainElem_int Tryd.underlying3 hz)
    rw [← hx.1] at hown
    refine ⟨bm, _, ?_, hown⟩
    have hc := World.var?_cell hg hv 0
    rw [hc, ← Array.getElem?_toList, hcs]
    rfl
end Go.Proofs.YtjdpoliamcnkbaaDoor.T
