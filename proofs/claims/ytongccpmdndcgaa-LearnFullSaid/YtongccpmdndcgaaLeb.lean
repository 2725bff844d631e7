/- Texts of this proof, gathered. What each part says stands at its head; conditions: none but those that its theorems name. -/
import Derived.Test.YtongccpmdndcgaaLea
import Derived.Test.YtongccpmdndcgaaTol
import Derived.Test.YtongccpmdndcgaaE4
import Derived.OpenShut
/- Plain laws of the static station. -/
section
set_option linter.all false
namespace Go.Proofs.Ytongccpmdndcgaa.Lrn
open Go Go.AE Go.Proofs.Ytongccpmdndcgaa.Alm Go.Proofs.Ytongccpmdndcgaa.Tab Go.Sort Go.Proofs
set_option maxRecDepth 100000
variable {T : List E}

abbrev kS (d w : Nat) : ByteArray := keyB d [2, 0, 0, 0, 0, w % 8]
theorem not_bad {k : ByteArray} {t : Int} (h : k.size = 8) (h1 : 0 ≤ t) (h2 : t ≤ 1099511627776) : ¬ bad k t := by unfold bad; omega
/-- Put in a table that has room. -/
theorem putT_room {room : Nat} {ref : Bool} {k : ByteArray} {v t : Int} (h8 : k.size = 8) (h1 : 0 ≤ t) (h2 : t ≤ 1099511627776) (hst : ((getE k T).map (·.2.2.2)).getD false = false) (hr : T.length < room) : putT T room ref k v t = (putE (k, v, t, false) T, zE, 0) := by
  unfold putT
  rw [if_neg (not_bad h8 h1 h2), if_neg (by rw [hst]; simp)]
  unfold layT
  rw [if_neg (by rintro ⟨_, w⟩; omega)]
theorem fixT_room {room : Nat} {ref : Bool} {k : ByteArray} {v : Int} (h8 : k.size = 8) (hr : T.length < room) : fixT T room ref k v = (putE (k, v, 0, true) T, zE, 0) := by
  unfold fixT
  rw [if_neg (not_bad h8 (by omega) (by omega))]
  unfold layT
  rw [if_neg (by rintro ⟨_, w⟩; omega)]
/-- What See does where there is room. -/
theorem seeT_static {age : Int} {k : ByteArray} {e : E} {p now : Int} (hg : getE k T = some e) (hs : e.2.2.2 = true) : seeT T age k p now = (T, if e.2.1 = p then 0 else 3) := by simp [seeT, hg, hs]
theorem seeT_room {age : Int} {k : ByteArray} {p now : Int} (h8 : k.size = 8) (hst : ((getE k T).map (·.2.2.2)).getD false = false) (ha : age ≠ 0) (h1 : 0 ≤ now + age) (h2 : now + age ≤ 1099511627776) (hr : T.length < 256) :
    seeT T age k p now = (putE (k, p, now + age, false) T, match getE k T with | some e => if e.2.1 = p then 0 else 2 | none => 1) := by
  unfold seeT
  rw [if_neg (by rw [hst]; simp), if_neg ha]
  have : ¬ 1099511627776 < now + age := by omega
  rw [if_neg this, putT_room h8 h1 h2 hst hr]
  simp only [if_true]
  cases getE k T <;> rfl
structure FixI (T : List E) (k0 : ByteArray) (p4 : Int) (m : Nat) : Prop where
  g : getE k0 T = some (k0, p4, 0, true)
  st : ∀ e ∈ T, e.2.2.2 = true → e.1 = k0
  len : T.length ≤ m
end Go.Proofs.Ytongccpmdndcgaa.Lrn
end
/- The law on static stations: the run. -/
section
set_option linter.all false
namespace Go.Proofs.Ytongccpmdndcgaa.Lrn
open Go Go.AE Go.Proofs.Ytongccpmdndcgaa.Alm Go.Proofs.Ytongccpmdndcgaa.Tab Go.Sort Go.Proofs
set_option maxRecDepth 100000
set_option maxHeartbeats 4000000
attribute [local irreducible] Go.AE.Tr.put Go.AE.Tr.get
variable {gs : List Nat} {orc : Orc} {n : Nat} {σ : AHeap} {Q : Value × AHeap → Prop}

structure FreeS (orc : Orc) : Prop extends FreeL orc where
  h10 : orc 10 = none
  h11 : orc 11 = none
  h12 : orc 12 = none
  h68 : orc 68 = none
  h70 : orc 70 = none
  h71 : orc 71 = none
  h77 : orc 77 = none
  h133 : orc 133 = none
theorem W_blk_cut {id : Nat} {x : Option (AExit × AFr × AHeap)} {K : AExit × AFr × AHeap → Prop} (R : AFr → AHeap → Prop) (h1 : W x fun r => ∃ fr σ, r = (.exit id, fr, σ) ∧ R fr σ) (h2 : ∀ fr σ, R fr σ → K (.normal, fr, σ)) : W x (KBlk id K) :=
  h1.mono fun r ⟨fr, σ, e, h⟩ => by subst e; rw [KBlk_exit, if_pos rfl]; exact h2 fr σ h
abbrev Sn := Nat × Nat × Nat × Nat
end Go.Proofs.Ytongccpmdndcgaa.Lrn
end
/- The laws of stations: the table of contracts, what came in; the law on static stations. -/
section
set_option linter.all false
namespace Go.Proofs.Ytongccpmdndcgaa.Lrn
open Go Go.AE Go.Proofs.Ytongccpmdndcgaa.Alm Go.Proofs.Ytongccpmdndcgaa.Tab Go.Sort Go.Proofs Go.RowKit Go.ChangeShapes
set_option maxRecDepth 100000

def tableL : List (FuncId × (List Value → AHeap → Option (Value × AHeap))) := (101, sortFO 2 decA encA srtA 102) :: Try.table
theorem toldL : OrcS False Try.prog [] (orcs tableL) := .cons sort_told Try.told
theorem freeL : FreeS (orcs tableL) := { h102 := rfl, h151 := rfl, h152 := rfl, h153 := rfl, h185 := rfl, h186 := rfl, h234 := rfl, h235 := rfl, h236 := rfl, h237 := rfl, h20 := rfl, h99 := rfl, h154 := rfl, h156 := rfl, h103 := rfl, h105 := rfl, h106 := rfl, h107 := rfl, h19 := rfl, h22 := rfl, h23 := rfl, h24 := rfl, h26 := rfl, h27 := rfl, h28 := rfl, h30 := rfl, h100 := rfl, o101 := rfl, o104 := rfl, h36 := rfl, h37 := rfl, h38 := rfl, h39 := rfl, h40 := rfl, h41 := rfl, h42 := rfl, h46 := rfl, h47 := rfl, h48 := rfl, h49 := rfl, h63 := rfl, h115 := rfl, h117 := rfl, h118 := rfl, h119 := rfl, h120 := rfl, o116 := rfl, o122 := rfl, h72 := rfl, h126 := rfl, h165 := rfl, h166 := rfl, h191 := rfl, h192 := rfl, h193 := rfl, h211 := rfl, h64 := rfl, h65 := rfl, h66 := rfl, h67 := rfl, h69 := rfl, h73 := rfl, h74 := rfl, h75 := rfl, h76 := rfl, h78 := rfl, h127 := rfl, h128 := rfl, h129 := rfl, h130 := rfl, h131 := rfl, h132 := rfl, h10 := rfl, h11 := rfl, h12 := rfl, h68 := rfl, h70 := rfl, h71 := rfl, h77 := rfl, h133 := rfl }
instance : Inhabited Sn := ⟨(0, 0, 0, 0)⟩
theorem c5 : Try.prog.cellsOf 5 = 1 := by kernel_rfl
section
variable {H : Type} {enc : TypeId × Value → H} {w : World} {held : Bool} {sp : Nat → Bool} {base : Nat}
end
end Go.Proofs.Ytongccpmdndcgaa.Lrn
end
