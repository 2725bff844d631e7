/- Texts of this proof, gathered. What each part says stands at its head; conditions: none but those that its theorems name. -/
import Derived.Test.YtongccpmdndcgaaE4
import Derived.Test.YtongccpmdndcgaaProg
import Derived.KernelRfl
/- Facts on this program's types and functions, as a program of this project printed them: sizes, zero values, places of fields. Conditions: none. -/
section
set_option linter.all false
set_option maxRecDepth 100000
namespace Go.Proofs
open Go Go.AE
theorem Try.size_2 : sizeOf' Try.prog 2 = some 1 := by kernel_rfl
theorem Try.size_3 : sizeOf' Try.prog 3 = some 1 := by kernel_rfl
theorem Try.size_9 : sizeOf' Try.prog 9 = some 1 := by kernel_rfl
theorem Try.size_27 : sizeOf' Try.prog 27 = some 1 := by kernel_rfl
theorem Try.size_32 : sizeOf' Try.prog 32 = some 2 := by kernel_rfl
theorem Try.size_65 : sizeOf' Try.prog 65 = some 4 := by kernel_rfl
theorem Try.size_69 : sizeOf' Try.prog 69 = some 4 := by kernel_rfl
theorem Try.size_87 : sizeOf' Try.prog 87 = some 1 := by kernel_rfl
theorem Try.size_89 : sizeOf' Try.prog 89 = some 4 := by kernel_rfl
theorem Try.isAgg_2 : isAgg' Try.prog 2 = some false := by kernel_rfl
theorem Try.ld_2 {σ : AHeap} {b o : Nat} : ldVar Try.prog 2 σ b o = ld σ b o := by simp only [ldVar, Try.isAgg_2]
theorem Try.st_2 {σ : AHeap} {b o : Nat} {v : Value} : storeV Try.prog 2 (.pointer (some ⟨b, o, none⟩)) v σ = if v.cells.size = 1 then (stCells σ b o v.cells.toList).map fun σ => (undef, σ) else none := by simp only [storeV, Try.size_2]
theorem Try.isAgg_3 : isAgg' Try.prog 3 = some false := by kernel_rfl
theorem Try.zero_3 : zeroOf Try.prog 3 = some (.int .i64 (0)) := by kernel_rfl
theorem Try.elem_3 : elemOk Try.prog 3 = some (1, [(.int .i64 (0))]) := by kernel_rfl
theorem Try.ld_3 {σ : AHeap} {b o : Nat} : ldVar Try.prog 3 σ b o = ld σ b o := by simp only [ldVar, Try.isAgg_3]
theorem Try.st_3 {σ : AHeap} {b o : Nat} {v : Value} : storeV Try.prog 3 (.pointer (some ⟨b, o, none⟩)) v σ = if v.cells.size = 1 then (stCells σ b o v.cells.toList).map fun σ => (undef, σ) else none := by simp only [storeV, Try.size_3]
theorem Try.isAgg_4 : isAgg' Try.prog 4 = some false := by kernel_rfl
theorem Try.ld_4 {σ : AHeap} {b o : Nat} : ldVar Try.prog 4 σ b o = ld σ b o := by simp only [ldVar, Try.isAgg_4]
theorem Try.isAgg_9 : isAgg' Try.prog 9 = some false := by kernel_rfl
theorem Try.ld_9 {σ : AHeap} {b o : Nat} : ldVar Try.prog 9 σ b o = ld σ b o := by simp only [ldVar, Try.isAgg_9]
theorem Try.len_9 {s : ByteArray} {σ : AHeap} : builtin' Try.prog .len #[9] [.string s] σ = some (.int .i64 (s.size : Int), σ) := Go.AE.len_string Try.underlying9
theorem Try.isAgg_23 : isAgg' Try.prog 23 = some false := by kernel_rfl
theorem Try.ld_23 {σ : AHeap} {b o : Nat} : ldVar Try.prog 23 σ b o = ld σ b o := by simp only [ldVar, Try.isAgg_23]
theorem Try.isAgg_27 : isAgg' Try.prog 27 = some false := by kernel_rfl
theorem Try.ld_27 {σ : AHeap} {b o : Nat} : ldVar Try.prog 27 σ b o = ld σ b o := by simp only [ldVar, Try.isAgg_27]
theorem Try.st_27 {σ : AHeap} {b o : Nat} {v : Value} : storeV Try.prog 27 (.pointer (some ⟨b, o, none⟩)) v σ = if v.cells.size = 1 then (stCells σ b o v.cells.toList).map fun σ => (undef, σ) else none := by simp only [storeV, Try.size_27]
theorem Try.len_27 {a : Option Addr} {m c : Nat} {σ : AHeap} : builtin' Try.prog .len #[27] [.slice a m c] σ = some (.int .i64 (m : Int), σ) := Go.AE.len_slice Try.underlying27
theorem Try.ia_27 {b o len cap : Nat} {ix : Value} : indexAddr Try.prog 27 (.slice (some ⟨b, o, none⟩) len cap) ix = (idx ix len).map fun i => .pointer (some ⟨b, o + i * 2, none⟩) := Go.AE.indexAddr_slice Try.underlying27 Try.size_32
theorem Try.isAgg_32 : isAgg' Try.prog 32 = some true := by kernel_rfl
theorem Try.zero_32 : zeroOf Try.prog 32 = some (.agg #[(.string ⟨#[]⟩), (.int .i64 (0))]) := by kernel_rfl
theorem Try.elem_32 : elemOk Try.prog 32 = some (2, [(.string ⟨#[]⟩), (.int .i64 (0))]) := by kernel_rfl
theorem Try.ld_32 {σ : AHeap} {b o : Nat} : ldVar Try.prog 32 σ b o = (ldCells σ b o 2).map fun vs => .agg vs.toArray := by simp only [ldVar, Try.isAgg_32, Try.size_32]
theorem Try.st_32 {σ : AHeap} {b o : Nat} {v : Value} : storeV Try.prog 32 (.pointer (some ⟨b, o, none⟩)) v σ = if v.cells.size = 2 then (stCells σ b o v.cells.toList).map fun σ => (undef, σ) else none := by simp only [storeV, Try.size_32]
theorem Try.mi_32 {v : Value} : ifaceV Try.prog 32 v = some (.iface 32 v) := by kernel_rfl
theorem Try.fa_32_0 {b o : Nat} : fieldAddr Try.prog 32 (.pointer (some ⟨b, o, none⟩)) 0 = some (.pointer (some ⟨b, o, none⟩)) := by kernel_rfl
theorem Try.fa_32_1 {b o : Nat} : fieldAddr Try.prog 32 (.pointer (some ⟨b, o, none⟩)) 1 = some (.pointer (some ⟨b, o + 1, none⟩)) := by kernel_rfl
theorem Try.isAgg_56 : isAgg' Try.prog 56 = some false := by kernel_rfl
theorem Try.ld_56 {σ : AHeap} {b o : Nat} : ldVar Try.prog 56 σ b o = ld σ b o := by simp only [ldVar, Try.isAgg_56]
theorem Try.fa_58_0 {b o : Nat} : fieldAddr Try.prog 58 (.pointer (some ⟨b, o, none⟩)) 0 = some (.pointer (some ⟨b, o, none⟩)) := by kernel_rfl
theorem Try.fa_58_1 {b o : Nat} : fieldAddr Try.prog 58 (.pointer (some ⟨b, o, none⟩)) 1 = some (.pointer (some ⟨b, o + 1, none⟩)) := by kernel_rfl
theorem Try.len_60 {a : Option Addr} {m c : Nat} {σ : AHeap} : builtin' Try.prog .len #[60] [.slice a m c] σ = some (.int .i64 (m : Int), σ) := Go.AE.len_slice Try.underlying60
theorem Try.ia_60 {b o len cap : Nat} {ix : Value} : indexAddr Try.prog 60 (.slice (some ⟨b, o, none⟩) len cap) ix = (idx ix len).map fun i => .pointer (some ⟨b, o + i * 4, none⟩) := Go.AE.indexAddr_slice Try.underlying60 Try.size_65
theorem Try.isAgg_65 : isAgg' Try.prog 65 = some true := by kernel_rfl
theorem Try.zero_65 : zeroOf Try.prog 65 = some (.agg #[(.int .i64 (0)), (.string ⟨#[]⟩), (.int .i64 (0)), (.int .i64 (0))]) := by kernel_rfl
theorem Try.ld_65 {σ : AHeap} {b o : Nat} : ldVar Try.prog 65 σ b o = (ldCells σ b o 4).map fun vs => .agg vs.toArray := by simp only [ldVar, Try.isAgg_65, Try.size_65]
theorem Try.st_65 {σ : AHeap} {b o : Nat} {v : Value} : storeV Try.prog 65 (.pointer (some ⟨b, o, none⟩)) v σ = if v.cells.size = 4 then (stCells σ b o v.cells.toList).map fun σ => (undef, σ) else none := by simp only [storeV, Try.size_65]
theorem Try.fa_65_0 {b o : Nat} : fieldAddr Try.prog 65 (.pointer (some ⟨b, o, none⟩)) 0 = some (.pointer (some ⟨b, o, none⟩)) := by kernel_rfl
theorem Try.fa_65_1 {b o : Nat} : fieldAddr Try.prog 65 (.pointer (some ⟨b, o, none⟩)) 1 = some (.pointer (some ⟨b, o + 1, none⟩)) := by kernel_rfl
theorem Try.fa_65_2 {b o : Nat} : fieldAddr Try.prog 65 (.pointer (some ⟨b, o, none⟩)) 2 = some (.pointer (some ⟨b, o + 2, none⟩)) := by kernel_rfl
theorem Try.fa_65_3 {b o : Nat} : fieldAddr Try.prog 65 (.pointer (some ⟨b, o, none⟩)) 3 = some (.pointer (some ⟨b, o + 3, none⟩)) := by kernel_rfl
theorem Try.len_66 {a : Option Addr} {m c : Nat} {σ : AHeap} : builtin' Try.prog .len #[66] [.slice a m c] σ = some (.int .i64 (m : Int), σ) := Go.AE.len_slice Try.underlying66
theorem Try.ia_66 {b o len cap : Nat} {ix : Value} : indexAddr Try.prog 66 (.slice (some ⟨b, o, none⟩) len cap) ix = (idx ix len).map fun i => .pointer (some ⟨b, o + i * 4, none⟩) := Go.AE.indexAddr_slice Try.underlying66 Try.size_69
theorem Try.isAgg_69 : isAgg' Try.prog 69 = some true := by kernel_rfl
theorem Try.zero_69 : zeroOf Try.prog 69 = some (.agg #[(.string ⟨#[]⟩), (.int .i64 (0)), (.int .i64 (0)), (.bool false)]) := by kernel_rfl
theorem Try.elem_69 : elemOk Try.prog 69 = some (4, [(.string ⟨#[]⟩), (.int .i64 (0)), (.int .i64 (0)), (.bool false)]) := by kernel_rfl
theorem Try.ld_69 {σ : AHeap} {b o : Nat} : ldVar Try.prog 69 σ b o = (ldCells σ b o 4).map fun vs => .agg vs.toArray := by simp only [ldVar, Try.isAgg_69, Try.size_69]
theorem Try.st_69 {σ : AHeap} {b o : Nat} {v : Value} : storeV Try.prog 69 (.pointer (some ⟨b, o, none⟩)) v σ = if v.cells.size = 4 then (stCells σ b o v.cells.toList).map fun σ => (undef, σ) else none := by simp only [storeV, Try.size_69]
theorem Try.fa_69_0 {b o : Nat} : fieldAddr Try.prog 69 (.pointer (some ⟨b, o, none⟩)) 0 = some (.pointer (some ⟨b, o, none⟩)) := by kernel_rfl
theorem Try.fa_69_1 {b o : Nat} : fieldAddr Try.prog 69 (.pointer (some ⟨b, o, none⟩)) 1 = some (.pointer (some ⟨b, o + 1, none⟩)) := by kernel_rfl
theorem Try.fa_69_2 {b o : Nat} : fieldAddr Try.prog 69 (.pointer (some ⟨b, o, none⟩)) 2 = some (.pointer (some ⟨b, o + 2, none⟩)) := by kernel_rfl
theorem Try.fa_69_3 {b o : Nat} : fieldAddr Try.prog 69 (.pointer (some ⟨b, o, none⟩)) 3 = some (.pointer (some ⟨b, o + 3, none⟩)) := by kernel_rfl
theorem Try.fv_69_3 {cs : Array Value} : fieldVal Try.prog 69 (.agg cs) 3 = cs[3]? := by kernel_rfl
theorem Try.isAgg_87 : isAgg' Try.prog 87 = some false := by kernel_rfl
theorem Try.ld_87 {σ : AHeap} {b o : Nat} : ldVar Try.prog 87 σ b o = ld σ b o := by simp only [ldVar, Try.isAgg_87]
theorem Try.st_87 {σ : AHeap} {b o : Nat} {v : Value} : storeV Try.prog 87 (.pointer (some ⟨b, o, none⟩)) v σ = if v.cells.size = 1 then (stCells σ b o v.cells.toList).map fun σ => (undef, σ) else none := by simp only [storeV, Try.size_87]
theorem Try.len_87 {a : Option Addr} {m c : Nat} {σ : AHeap} : builtin' Try.prog .len #[87] [.slice a m c] σ = some (.int .i64 (m : Int), σ) := Go.AE.len_slice Try.underlying87
theorem Try.ia_87 {b o len cap : Nat} {ix : Value} : indexAddr Try.prog 87 (.slice (some ⟨b, o, none⟩) len cap) ix = (idx ix len).map fun i => .pointer (some ⟨b, o + i * 4, none⟩) := Go.AE.indexAddr_slice Try.underlying87 Try.size_89
theorem Try.isAgg_89 : isAgg' Try.prog 89 = some true := by kernel_rfl
theorem Try.zero_89 : zeroOf Try.prog 89 = some (.agg #[(.string ⟨#[]⟩), (.int .i64 (0)), (.int .i64 (0)), (.bool false)]) := by kernel_rfl
theorem Try.elem_89 : elemOk Try.prog 89 = some (4, [(.string ⟨#[]⟩), (.int .i64 (0)), (.int .i64 (0)), (.bool false)]) := by kernel_rfl
theorem Try.ld_89 {σ : AHeap} {b o : Nat} : ldVar Try.prog 89 σ b o = (ldCells σ b o 4).map fun vs => .agg vs.toArray := by simp only [ldVar, Try.isAgg_89, Try.size_89]
theorem Try.st_89 {σ : AHeap} {b o : Nat} {v : Value} : storeV Try.prog 89 (.pointer (some ⟨b, o, none⟩)) v σ = if v.cells.size = 4 then (stCells σ b o v.cells.toList).map fun σ => (undef, σ) else none := by simp only [storeV, Try.size_89]
theorem Try.fa_89_0 {b o : Nat} : fieldAddr Try.prog 89 (.pointer (some ⟨b, o, none⟩)) 0 = some (.pointer (some ⟨b, o, none⟩)) := by kernel_rfl
theorem Try.fa_89_1 {b o : Nat} : fieldAddr Try.prog 89 (.pointer (some ⟨b, o, none⟩)) 1 = some (.pointer (some ⟨b, o + 1, none⟩)) := by kernel_rfl
theorem Try.fa_89_2 {b o : Nat} : fieldAddr Try.prog 89 (.pointer (some ⟨b, o, none⟩)) 2 = some (.pointer (some ⟨b, o + 2, none⟩)) := by kernel_rfl
theorem Try.fa_89_3 {b o : Nat} : fieldAddr Try.prog 89 (.pointer (some ⟨b, o, none⟩)) 3 = some (.pointer (some ⟨b, o + 3, none⟩)) := by kernel_rfl
theorem Try.fa_95_0 {b o : Nat} : fieldAddr Try.prog 95 (.pointer (some ⟨b, o, none⟩)) 0 = some (.pointer (some ⟨b, o, none⟩)) := by kernel_rfl
theorem Try.fa_95_1 {b o : Nat} : fieldAddr Try.prog 95 (.pointer (some ⟨b, o, none⟩)) 1 = some (.pointer (some ⟨b, o + 1, none⟩)) := by kernel_rfl
theorem Try.fa_95_2 {b o : Nat} : fieldAddr Try.prog 95 (.pointer (some ⟨b, o, none⟩)) 2 = some (.pointer (some ⟨b, o + 2, none⟩)) := by kernel_rfl
theorem Try.len_143 {a : Option Addr} {m c : Nat} {σ : AHeap} : builtin' Try.prog .len #[143] [.slice a m c] σ = some (.int .i64 (m : Int), σ) := Go.AE.len_slice Try.underlying143
theorem Try.ia_143 {b o len cap : Nat} {ix : Value} : indexAddr Try.prog 143 (.slice (some ⟨b, o, none⟩) len cap) ix = (idx ix len).map fun i => .pointer (some ⟨b, o + i * 1, none⟩) := Go.AE.indexAddr_slice Try.underlying143 Try.size_9
theorem Try.mi_175 {v : Value} : ifaceV Try.prog 175 v = some (.iface 175 v) := by kernel_rfl
theorem Try.fa_175_0 {b o : Nat} : fieldAddr Try.prog 175 (.pointer (some ⟨b, o, none⟩)) 0 = some (.pointer (some ⟨b, o, none⟩)) := by kernel_rfl
theorem Try.isAgg_193 : isAgg' Try.prog 193 = some false := by kernel_rfl
theorem Try.ld_193 {σ : AHeap} {b o : Nat} : ldVar Try.prog 193 σ b o = ld σ b o := by simp only [ldVar, Try.isAgg_193]
theorem Try.fa_195_0 {b o : Nat} : fieldAddr Try.prog 195 (.pointer (some ⟨b, o, none⟩)) 0 = some (.pointer (some ⟨b, o, none⟩)) := by kernel_rfl
theorem Try.fa_195_1 {b o : Nat} : fieldAddr Try.prog 195 (.pointer (some ⟨b, o, none⟩)) 1 = some (.pointer (some ⟨b, o + 1, none⟩)) := by kernel_rfl
theorem Try.fa_195_2 {b o : Nat} : fieldAddr Try.prog 195 (.pointer (some ⟨b, o, none⟩)) 2 = some (.pointer (some ⟨b, o + 2, none⟩)) := by kernel_rfl
theorem Try.fa_195_3 {b o : Nat} : fieldAddr Try.prog 195 (.pointer (some ⟨b, o, none⟩)) 3 = some (.pointer (some ⟨b, o + 3, none⟩)) := by kernel_rfl
theorem Try.len_266 {a : Option Addr} {m c : Nat} {σ : AHeap} : builtin' Try.prog .len #[266] [.slice a m c] σ = some (.int .i64 (m : Int), σ) := Go.AE.len_slice Try.underlying266
theorem Try.ia_266 {b o len cap : Nat} {ix : Value} : indexAddr Try.prog 266 (.slice (some ⟨b, o, none⟩) len cap) ix = (idx ix len).map fun i => .pointer (some ⟨b, o + i * 1, none⟩) := Go.AE.indexAddr_slice Try.underlying266 Try.size_3
theorem Try.enters_20 : enters Try.prog 20 = true := by kernel_rfl
theorem Try.enters_23 : enters Try.prog 23 = true := by kernel_rfl
theorem Try.enters_24 : enters Try.prog 24 = true := by kernel_rfl
theorem Try.enters_26 : enters Try.prog 26 = true := by kernel_rfl
theorem Try.enters_27 : enters Try.prog 27 = true := by kernel_rfl
theorem Try.enters_28 : enters Try.prog 28 = true := by kernel_rfl
theorem Try.enters_30 : enters Try.prog 30 = true := by kernel_rfl
theorem Try.enters_36 : enters Try.prog 36 = true := by kernel_rfl
theorem Try.enters_37 : enters Try.prog 37 = true := by kernel_rfl
theorem Try.enters_38 : enters Try.prog 38 = true := by kernel_rfl
theorem Try.enters_39 : enters Try.prog 39 = true := by kernel_rfl
theorem Try.enters_40 : enters Try.prog 40 = true := by kernel_rfl
theorem Try.enters_41 : enters Try.prog 41 = true := by kernel_rfl
theorem Try.enters_42 : enters Try.prog 42 = true := by kernel_rfl
theorem Try.enters_45 : enters Try.prog 45 = true := by kernel_rfl
theorem Try.enters_46 : enters Try.prog 46 = true := by kernel_rfl
theorem Try.enters_47 : enters Try.prog 47 = true := by kernel_rfl
theorem Try.enters_48 : enters Try.prog 48 = true := by kernel_rfl
theorem Try.enters_49 : enters Try.prog 49 = true := by kernel_rfl
theorem Try.enters_51 : enters Try.prog 51 = true := by kernel_rfl
theorem Try.enters_52 : enters Try.prog 52 = true := by kernel_rfl
theorem Try.enters_53 : enters Try.prog 53 = true := by kernel_rfl
theorem Try.enters_54 : enters Try.prog 54 = true := by kernel_rfl
theorem Try.enters_55 : enters Try.prog 55 = true := by kernel_rfl
theorem Try.enters_56 : enters Try.prog 56 = true := by kernel_rfl
theorem Try.enters_57 : enters Try.prog 57 = true := by kernel_rfl
theorem Try.enters_58 : enters Try.prog 58 = true := by kernel_rfl
theorem Try.enters_59 : enters Try.prog 59 = true := by kernel_rfl
theorem Try.enters_60 : enters Try.prog 60 = true := by kernel_rfl
theorem Try.enters_61 : enters Try.prog 61 = true := by kernel_rfl
theorem Try.enters_62 : enters Try.prog 62 = true := by kernel_rfl
theorem Try.enters_63 : enters Try.prog 63 = true := by kernel_rfl
theorem Try.enters_99 : enters Try.prog 99 = true := by kernel_rfl
theorem Try.enters_100 : enters Try.prog 100 = true := by kernel_rfl
theorem Try.enters_102 : enters Try.prog 102 = true := by kernel_rfl
theorem Try.enters_103 : enters Try.prog 103 = true := by kernel_rfl
theorem Try.enters_104 : enters Try.prog 104 = true := by kernel_rfl
theorem Try.enters_105 : enters Try.prog 105 = true := by kernel_rfl
theorem Try.enters_106 : enters Try.prog 106 = true := by kernel_rfl
theorem Try.enters_107 : enters Try.prog 107 = true := by kernel_rfl
theorem Try.enters_115 : enters Try.prog 115 = true := by kernel_rfl
theorem Try.enters_116 : enters Try.prog 116 = true := by kernel_rfl
theorem Try.enters_117 : enters Try.prog 117 = true := by kernel_rfl
theorem Try.enters_118 : enters Try.prog 118 = true := by kernel_rfl
theorem Try.enters_119 : enters Try.prog 119 = true := by kernel_rfl
theorem Try.enters_120 : enters Try.prog 120 = true := by kernel_rfl
theorem Try.enters_122 : enters Try.prog 122 = true := by kernel_rfl
theorem Try.enters_123 : enters Try.prog 123 = true := by kernel_rfl
theorem Try.enters_124 : enters Try.prog 124 = true := by kernel_rfl
theorem Try.enters_125 : enters Try.prog 125 = true := by kernel_rfl
theorem Try.enters_151 : enters Try.prog 151 = true := by kernel_rfl
theorem Try.enters_152 : enters Try.prog 152 = true := by kernel_rfl
theorem Try.enters_153 : enters Try.prog 153 = true := by kernel_rfl
theorem Try.enters_154 : enters Try.prog 154 = true := by kernel_rfl
theorem Try.enters_156 : enters Try.prog 156 = true := by kernel_rfl
theorem Try.enters_185 : enters Try.prog 185 = true := by kernel_rfl
theorem Try.enters_186 : enters Try.prog 186 = true := by kernel_rfl
theorem Try.enters_234 : enters Try.prog 234 = true := by kernel_rfl
theorem Try.enters_235 : enters Try.prog 235 = true := by kernel_rfl
theorem Try.enters_236 : enters Try.prog 236 = true := by kernel_rfl
theorem Try.enters_237 : enters Try.prog 237 = true := by kernel_rfl
end Go.Proofs
end
