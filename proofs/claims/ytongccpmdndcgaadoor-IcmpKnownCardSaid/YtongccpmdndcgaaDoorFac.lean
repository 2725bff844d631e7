/- Texts of this proof, gathered. What each part says stands at its head; conditions: none but those that its theorems name. -/
import Derived.Test.YtongccpmdndcgaaDoorE4
import Derived.Test.YtongccpmdndcgaaDoorProg
import Derived.KernelRfl
/- Facts on this program's types and functions, as a program of this project printed them: sizes, zero values, places of fields. Conditions: none. -/
section
set_option linter.all false
set_option maxRecDepth 100000
namespace Go.Proofs
open Go Go.AE
theorem Tryd.size_5 : sizeOf' Tryd.prog 5 = some 1 := by kernel_rfl
theorem Tryd.size_22 : sizeOf' Tryd.prog 22 = some 4 := by kernel_rfl
theorem Tryd.size_23 : sizeOf' Tryd.prog 23 = some 1 := by kernel_rfl
theorem Tryd.size_25 : sizeOf' Tryd.prog 25 = some 7 := by kernel_rfl
theorem Tryd.size_35 : sizeOf' Tryd.prog 35 = some 1 := by kernel_rfl
theorem Tryd.size_39 : sizeOf' Tryd.prog 39 = some 11 := by kernel_rfl
theorem Tryd.isAgg_5 : isAgg' Tryd.prog 5 = some false := by kernel_rfl
theorem Tryd.elem_5 : elemOk Tryd.prog 5 = some (1, [(.int .u8 (0))]) := by kernel_rfl
theorem Tryd.ld_5 {σ : AHeap} {b o : Nat} : ldVar Tryd.prog 5 σ b o = ld σ b o := by simp only [ldVar, Tryd.isAgg_5]
theorem Tryd.st_5 {σ : AHeap} {b o : Nat} {v : Value} : storeV Tryd.prog 5 (.pointer (some ⟨b, o, none⟩)) v σ = if v.cells.size = 1 then (stCells σ b o v.cells.toList).map fun σ => (undef, σ) else none := by simp only [storeV, Tryd.size_5]
theorem Tryd.isAgg_22 : isAgg' Tryd.prog 22 = some true := by kernel_rfl
theorem Tryd.ld_22 {σ : AHeap} {b o : Nat} : ldVar Tryd.prog 22 σ b o = (ldCells σ b o 4).map fun vs => .agg vs.toArray := by simp only [ldVar, Tryd.isAgg_22, Tryd.size_22]
theorem Tryd.isAgg_23 : isAgg' Tryd.prog 23 = some false := by kernel_rfl
theorem Tryd.ld_23 {σ : AHeap} {b o : Nat} : ldVar Tryd.prog 23 σ b o = ld σ b o := by simp only [ldVar, Tryd.isAgg_23]
theorem Tryd.st_23 {σ : AHeap} {b o : Nat} {v : Value} : storeV Tryd.prog 23 (.pointer (some ⟨b, o, none⟩)) v σ = if v.cells.size = 1 then (stCells σ b o v.cells.toList).map fun σ => (undef, σ) else none := by simp only [storeV, Tryd.size_23]
theorem Tryd.len_23 {a : Option Addr} {m c : Nat} {σ : AHeap} : builtin' Tryd.prog .len #[23] [.slice a m c] σ = some (.int .i64 (m : Int), σ) := Go.AE.len_slice Tryd.underlying23
theorem Tryd.ia_23 {b o len cap : Nat} {ix : Value} : indexAddr Tryd.prog 23 (.slice (some ⟨b, o, none⟩) len cap) ix = (idx ix len).map fun i => .pointer (some ⟨b, o + i * 1, none⟩) := Go.AE.indexAddr_slice Tryd.underlying23 Tryd.size_5
theorem Tryd.isAgg_25 : isAgg' Tryd.prog 25 = some true := by kernel_rfl
theorem Tryd.zero_25 : zeroOf Tryd.prog 25 = some (.agg #[(.int .u8 (0)), (.int .u8 (0)), (.int .u8 (0)), (.int .u8 (0)), (.int .u8 (0)), (.int .u8 (0)), (.slice none 0 0)]) := by kernel_rfl
theorem Tryd.ld_25 {σ : AHeap} {b o : Nat} : ldVar Tryd.prog 25 σ b o = (ldCells σ b o 7).map fun vs => .agg vs.toArray := by simp only [ldVar, Tryd.isAgg_25, Tryd.size_25]
theorem Tryd.st_25 {σ : AHeap} {b o : Nat} {v : Value} : storeV Tryd.prog 25 (.pointer (some ⟨b, o, none⟩)) v σ = if v.cells.size = 7 then (stCells σ b o v.cells.toList).map fun σ => (undef, σ) else none := by simp only [storeV, Tryd.size_25]
theorem Tryd.fa_25_0 {b o : Nat} : fieldAddr Tryd.prog 25 (.pointer (some ⟨b, o, none⟩)) 0 = some (.pointer (some ⟨b, o, none⟩)) := by kernel_rfl
theorem Tryd.fa_25_1 {b o : Nat} : fieldAddr Tryd.prog 25 (.pointer (some ⟨b, o, none⟩)) 1 = some (.pointer (some ⟨b, o + 1, none⟩)) := by kernel_rfl
theorem Tryd.fa_25_2 {b o : Nat} : fieldAddr Tryd.prog 25 (.pointer (some ⟨b, o, none⟩)) 2 = some (.pointer (some ⟨b, o + 2, none⟩)) := by kernel_rfl
theorem Tryd.fa_25_3 {b o : Nat} : fieldAddr Tryd.prog 25 (.pointer (some ⟨b, o, none⟩)) 3 = some (.pointer (some ⟨b, o + 6, none⟩)) := by kernel_rfl
theorem Tryd.isAgg_35 : isAgg' Tryd.prog 35 = some false := by kernel_rfl
theorem Tryd.zero_35 : zeroOf Tryd.prog 35 = some (.int .u16 (0)) := by kernel_rfl
theorem Tryd.ld_35 {σ : AHeap} {b o : Nat} : ldVar Tryd.prog 35 σ b o = ld σ b o := by simp only [ldVar, Tryd.isAgg_35]
theorem Tryd.st_35 {σ : AHeap} {b o : Nat} {v : Value} : storeV Tryd.prog 35 (.pointer (some ⟨b, o, none⟩)) v σ = if v.cells.size = 1 then (stCells σ b o v.cells.toList).map fun σ => (undef, σ) else none := by simp only [storeV, Tryd.size_35]
theorem Tryd.isAgg_39 : isAgg' Tryd.prog 39 = some true := by kernel_rfl
theorem Tryd.zero_39 : zeroOf Tryd.prog 39 = some (.agg #[(.int .u8 (0)), (.int .u8 (0)), (.int .u8 (0)), (.int .u16 (0)), (.bool false), (.bool false), (.bool false), (.int .i64 (0)), (.int .u32 (0)), (.int .u32 (0)), (.slice none 0 0)]) := by kernel_rfl
theorem Tryd.ld_39 {σ : AHeap} {b o : Nat} : ldVar Tryd.prog 39 σ b o = (ldCells σ b o 11).map fun vs => .agg vs.toArray := by simp only [ldVar, Tryd.isAgg_39, Tryd.size_39]
theorem Tryd.st_39 {σ : AHeap} {b o : Nat} {v : Value} : storeV Tryd.prog 39 (.pointer (some ⟨b, o, none⟩)) v σ = if v.cells.size = 11 then (stCells σ b o v.cells.toList).map fun σ => (undef, σ) else none := by simp only [storeV, Tryd.size_39]
theorem Tryd.fa_39_10 {b o : Nat} : fieldAddr Tryd.prog 39 (.pointer (some ⟨b, o, none⟩)) 10 = some (.pointer (some ⟨b, o + 10, none⟩)) := by kernel_rfl
theorem Tryd.isAgg_53 : isAgg' Tryd.prog 53 = some false := by kernel_rfl
theorem Tryd.ld_53 {σ : AHeap} {b o : Nat} : ldVar Tryd.prog 53 σ b o = ld σ b o := by simp only [ldVar, Tryd.isAgg_53]
theorem Tryd.enters_6 : enters Tryd.prog 6 = true := by kernel_rfl
theorem Tryd.enters_8 : enters Tryd.prog 8 = true := by kernel_rfl
theorem Tryd.enters_10 : enters Tryd.prog 10 = true := by kernel_rfl
theorem Tryd.enters_12 : enters Tryd.prog 12 = true := by kernel_rfl
theorem Tryd.enters_16 : enters Tryd.prog 16 = true := by kernel_rfl
theorem Tryd.enters_17 : enters Tryd.prog 17 = true := by kernel_rfl
theorem Tryd.enters_18 : enters Tryd.prog 18 = true := by kernel_rfl
theorem Tryd.enters_19 : enters Tryd.prog 19 = true := by kernel_rfl
theorem Tryd.enters_21 : enters Tryd.prog 21 = true := by kernel_rfl
theorem Tryd.enters_23 : enters Tryd.prog 23 = true := by kernel_rfl
theorem Tryd.enters_24 : enters Tryd.prog 24 = true := by kernel_rfl
theorem Tryd.enters_26 : enters Tryd.prog 26 = true := by kernel_rfl
theorem Tryd.enters_27 : enters Tryd.prog 27 = true := by kernel_rfl
theorem Tryd.enters_30 : enters Tryd.prog 30 = true := by kernel_rfl
theorem Tryd.enters_31 : enters Tryd.prog 31 = true := by kernel_rfl
theorem Tryd.enters_32 : enters Tryd.prog 32 = true := by kernel_rfl
theorem Tryd.enters_33 : enters Tryd.prog 33 = true := by kernel_rfl
end Go.Proofs
end
