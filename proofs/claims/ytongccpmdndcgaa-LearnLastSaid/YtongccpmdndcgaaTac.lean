/- Texts of this proof, gathered. What each part says stands at its head; conditions: none but those that its theorems name. -/
import Derived.Test.YtongccpmdndcgaaTab
/- Tables: Sweep. -/
section
set_option linter.all false
namespace Go.Proofs.Ytongccpmdndcgaa.Tab
open Go Go.AE Go.Proofs.Ytongccpmdndcgaa.Alm Go.Sort Go.Proofs
set_option maxRecDepth 100000
set_option maxHeartbeats 1000000
attribute [local irreducible] Go.AE.Tr.put Go.AE.Tr.get
variable {gs : List Nat} {orc : Orc} {n : Nat} {σ : AHeap} {Q : Value × AHeap → Prop}
variable {p room : Nat} {F : List Nat} {T : List E} {ref : Bool}

end Go.Proofs.Ytongccpmdndcgaa.Tab
end
