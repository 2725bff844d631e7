/- Texts of this proof, gathered. What each part says stands at its head; conditions: none but those that its theorems name. -/
import Derived.Test.YtongccpmdndcgaaE4
import Derived.Test.YtongccpmdndcgaaProg
import Derived.KernelRfl
/- Facts on this program's types and functions, as a program of this project printed them: sizes, zero values, places of fields. Conditions: none. -/
section
set_option linter.all false
set_option maxRecDepth 100000
namespace Go.Proofs
open Go Go.AE
theorem Try.size_2 : sizeOf' Try.prog 2 = some 1 := by kernel_rfl
theorem Try.size_3 : sizeOf' Try.prog 3 = some 1 := by kernel_rfl
theorem Try.size_5 : sizeOf' Try.prog 5 = some 1 := by kernel_rfl
theorem Try.size_27 : sizeOf' Try.prog 27 = some 1 := by kernel_rfl
theorem Try.size_32 : sizeOf' Try.prog 32 = some 2 := by kernel_rfl
theorem Try.size_69 : sizeOf' Try.prog 69 = some 4 := by kernel_rfl
theorem Try.size_104 : sizeOf' Try.prog 104 = some 3 := by kernel_rfl
theorem Try.size_108 : sizeOf' Try.prog 108 = some 4 := by kernel_rfl
theorem Try.size_111 : sizeOf' Try.prog 111 = some 2 := by kernel_rfl
theorem Try.size_117 : sizeOf' Try.prog 117 = some 6 := by kernel_rfl
theorem Try.size_120 : sizeOf' Try.prog 120 = some 10 := by kernel_rfl
theorem Try.size_249 : sizeOf' Try.prog 249 = some 2 := by kernel_rfl
theorem Try.isAgg_2 : isAgg' Try.prog 2 = some false := by kernel_rfl
theorem Try.zero_2 : zeroOf Try.prog 2 = some (.int .i64 (0)) := by kernel_rfl
theorem Try.ld_2 {σ : AHeap} {b o : Nat} : ldVar Try.prog 2 σ b o = ld σ b o := by simp only [ldVar, Try.isAgg_2]
theorem Try.st_2 {σ : AHeap} {b o : Nat} {v : Value} : storeV Try.prog 2 (.pointer (some ⟨b, o, none⟩)) v σ = if v.cells.size = 1 then (stCells σ b o v.cells.toList).map fun σ => (undef, σ) else none := by simp only [storeV, Try.size_2]
theorem Try.isAgg_3 : isAgg' Try.prog 3 = some false := by kernel_rfl
theorem Try.zero_3 : zeroOf Try.prog 3 = some (.int .i64 (0)) := by kernel_rfl
theorem Try.elem_3 : elemOk Try.prog 3 = some (1, [(.int .i64 (0))]) := by kernel_rfl
theorem Try.ld_3 {σ : AHeap} {b o : Nat} : ldVar Try.prog 3 σ b o = ld σ b o := by simp only [ldVar, Try.isAgg_3]
theorem Try.isAgg_4 : isAgg' Try.prog 4 = some false := by kernel_rfl
theorem Try.ld_4 {σ : AHeap} {b o : Nat} : ldVar Try.prog 4 σ b o = ld σ b o := by simp only [ldVar, Try.isAgg_4]
theorem Try.isAgg_5 : isAgg' Try.prog 5 = some false := by kernel_rfl
theorem Try.ld_5 {σ : AHeap} {b o : Nat} : ldVar Try.prog 5 σ b o = ld σ b o := by simp only [ldVar, Try.isAgg_5]
theorem Try.st_5 {σ : AHeap} {b o : Nat} {v : Value} : storeV Try.prog 5 (.pointer (some ⟨b, o, none⟩)) v σ = if v.cells.size = 1 then (stCells σ b o v.cells.toList).map fun σ => (undef, σ) else none := by simp only [storeV, Try.size_5]
theorem Try.isAgg_9 : isAgg' Try.prog 9 = some false := by kernel_rfl
theorem Try.ld_9 {σ : AHeap} {b o : Nat} : ldVar Try.prog 9 σ b o = ld σ b o := by simp only [ldVar, Try.isAgg_9]
theorem Try.len_9 {s : ByteArray} {σ : AHeap} : builtin' Try.prog .len #[9] [.string s] σ = some (.int .i64 (s.size : Int), σ) := Go.AE.len_string Try.underlying9
theorem Try.isAgg_23 : isAgg' Try.prog 23 = some false := by kernel_rfl
theorem Try.ld_23 {σ : AHeap} {b o : Nat} : ldVar Try.prog 23 σ b o = ld σ b o := by simp only [ldVar, Try.isAgg_23]
theorem Try.isAgg_27 : isAgg' Try.prog 27 = some false := by kernel_rfl
theorem Try.ld_27 {σ : AHeap} {b o : Nat} : ldVar Try.prog 27 σ b o = ld σ b o := by simp only [ldVar, Try.isAgg_27]
theorem Try.st_27 {σ : AHeap} {b o : Nat} {v : Value} : storeV Try.prog 27 (.pointer (some ⟨b, o, none⟩)) v σ = if v.cells.size = 1 then (stCells σ b o v.cells.toList).map fun σ => (undef, σ) else none := by simp only [storeV, Try.size_27]
theorem Try.len_27 {a : Option Addr} {m c : Nat} {σ : AHeap} : builtin' Try.prog .len #[27] [.slice a m c] σ = some (.int .i64 (m : Int), σ) := Go.AE.len_slice Try.underlying27
theorem Try.ia_27 {b o len cap : Nat} {ix : Value} : indexAddr Try.prog 27 (.slice (some ⟨b, o, none⟩) len cap) ix = (idx ix len).map fun i => .pointer (some ⟨b, o + i * 2, none⟩) := Go.AE.indexAddr_slice Try.underlying27 Try.size_32
theorem Try.isAgg_32 : isAgg' Try.prog 32 = some true := by kernel_rfl
theorem Try.zero_32 : zeroOf Try.prog 32 = some (.agg #[(.string ⟨#[]⟩), (.int .i64 (0))]) := by kernel_rfl
theorem Try.elem_32 : elemOk Try.prog 32 = some (2, [(.string ⟨#[]⟩), (.int .i64 (0))]) := by kernel_rfl
theorem Try.ld_32 {σ : AHeap} {b o : Nat} : ldVar Try.prog 32 σ b o = (ldCells σ b o 2).map fun vs => .agg vs.toArray := by simp only [ldVar, Try.isAgg_32, Try.size_32]
theorem Try.st_32 {σ : AHeap} {b o : Nat} {v : Value} : storeV Try.prog 32 (.pointer (some ⟨b, o, none⟩)) v σ = if v.cells.size = 2 then (stCells σ b o v.cells.toList).map fun σ => (undef, σ) else none := by simp only [storeV, Try.size_32]
theorem Try.mi_32 {v : Value} : ifaceV Try.prog 32 v = some (.iface 32 v) := by kernel_rfl
theorem Try.fa_32_0 {b o : Nat} : fieldAddr Try.prog 32 (.pointer (some ⟨b, o, none⟩)) 0 = some (.pointer (some ⟨b, o, none⟩)) := by kernel_rfl
theorem Try.fa_32_1 {b o : Nat} : fieldAddr Try.prog 32 (.pointer (some ⟨b, o, none⟩)) 1 = some (.pointer (some ⟨b, o + 1, none⟩)) := by kernel_rfl
theorem Try.isAgg_56 : isAgg' Try.prog 56 = some false := by kernel_rfl
theorem Try.ld_56 {σ : AHeap} {b o : Nat} : ldVar Try.prog 56 σ b o = ld σ b o := by simp only [ldVar, Try.isAgg_56]
theorem Try.fa_58_0 {b o : Nat} : fieldAddr Try.prog 58 (.pointer (some ⟨b, o, none⟩)) 0 = some (.pointer (some ⟨b, o, none⟩)) := by kernel_rfl
theorem Try.fa_58_1 {b o : Nat} : fieldAddr Try.prog 58 (.pointer (some ⟨b, o, none⟩)) 1 = some (.pointer (some ⟨b, o + 1, none⟩)) := by kernel_rfl
theorem Try.isAgg_61 : isAgg' Try.prog 61 = some false := by kernel_rfl
theorem Try.ld_61 {σ : AHeap} {b o : Nat} : ldVar Try.prog 61 σ b o = ld σ b o := by simp only [ldVar, Try.isAgg_61]
theorem Try.len_66 {a : Option Addr} {m c : Nat} {σ : AHeap} : builtin' Try.prog .len #[66] [.slice a m c] σ = some (.int .i64 (m : Int), σ) := Go.AE.len_slice Try.underlying66
theorem Try.ia_66 {b o len cap : Nat} {ix : Value} : indexAddr Try.prog 66 (.slice (some ⟨b, o, none⟩) len cap) ix = (idx ix len).map fun i => .pointer (some ⟨b, o + i * 4, none⟩) := Go.AE.indexAddr_slice Try.underlying66 Try.size_69
theorem Try.isAgg_69 : isAgg' Try.prog 69 = some true := by kernel_rfl
theorem Try.zero_69 : zeroOf Try.prog 69 = some (.agg #[(.string ⟨#[]⟩), (.int .i64 (0)), (.int .i64 (0)), (.bool false)]) := by kernel_rfl
theorem Try.elem_69 : elemOk Try.prog 69 = some (4, [(.string ⟨#[]⟩), (.int .i64 (0)), (.int .i64 (0)), (.bool false)]) := by kernel_rfl
theorem Try.ld_69 {σ : AHeap} {b o : Nat} : ldVar Try.prog 69 σ b o = (ldCells σ b o 4).map fun vs => .agg vs.toArray := by simp only [ldVar, Try.isAgg_69, Try.size_69]
theorem Try.st_69 {σ : AHeap} {b o : Nat} {v : Value} : storeV Try.prog 69 (.pointer (some ⟨b, o, none⟩)) v σ = if v.cells.size = 4 then (stCells σ b o v.cells.toList).map fun σ => (undef, σ) else none := by simp only [storeV, Try.size_69]
theorem Try.fa_69_0 {b o : Nat} : fieldAddr Try.prog 69 (.pointer (some ⟨b, o, none⟩)) 0 = some (.pointer (some ⟨b, o, none⟩)) := by kernel_rfl
theorem Try.fa_69_1 {b o : Nat} : fieldAddr Try.prog 69 (.pointer (some ⟨b, o, none⟩)) 1 = some (.pointer (some ⟨b, o + 1, none⟩)) := by kernel_rfl
theorem Try.fa_69_2 {b o : Nat} : fieldAddr Try.prog 69 (.pointer (some ⟨b, o, none⟩)) 2 = some (.pointer (some ⟨b, o + 2, none⟩)) := by kernel_rfl
theorem Try.fa_69_3 {b o : Nat} : fieldAddr Try.prog 69 (.pointer (some ⟨b, o, none⟩)) 3 = some (.pointer (some ⟨b, o + 3, none⟩)) := by kernel_rfl
theorem Try.fv_69_3 {cs : Array Value} : fieldVal Try.prog 69 (.agg cs) 3 = cs[3]? := by kernel_rfl
theorem Try.len_100 {a : Option Addr} {m c : Nat} {σ : AHeap} : builtin' Try.prog .len #[100] [.slice a m c] σ = some (.int .i64 (m : Int), σ) := Go.AE.len_slice Try.underlying100
theorem Try.ia_100 {b o len cap : Nat} {ix : Value} : indexAddr Try.prog 100 (.slice (some ⟨b, o, none⟩) len cap) ix = (idx ix len).map fun i => .pointer (some ⟨b, o + i * 4, none⟩) := Go.AE.indexAddr_slice Try.underlying100 Try.size_108
theorem Try.isAgg_104 : isAgg' Try.prog 104 = some true := by kernel_rfl
theorem Try.zero_104 : zeroOf Try.prog 104 = some (.agg #[(.int .i64 (0)), (.int .i64 (0)), (.int .i64 (0))]) := by kernel_rfl
theorem Try.ld_104 {σ : AHeap} {b o : Nat} : ldVar Try.prog 104 σ b o = (ldCells σ b o 3).map fun vs => .agg vs.toArray := by simp only [ldVar, Try.isAgg_104, Try.size_104]
theorem Try.st_104 {σ : AHeap} {b o : Nat} {v : Value} : storeV Try.prog 104 (.pointer (some ⟨b, o, none⟩)) v σ = if v.cells.size = 3 then (stCells σ b o v.cells.toList).map fun σ => (undef, σ) else none := by simp only [storeV, Try.size_104]
theorem Try.ia_104 {b o : Nat} {ix : Value} : indexAddr Try.prog 104 (.pointer (some ⟨b, o, none⟩)) ix = (idx ix 3).map fun i => .pointer (some ⟨b, o + i * 1, none⟩) := Go.AE.indexAddr_array Try.underlying104 Try.size_3
theorem Try.isAgg_108 : isAgg' Try.prog 108 = some true := by kernel_rfl
theorem Try.zero_108 : zeroOf Try.prog 108 = some (.agg #[(.int .u8 (0)), (.int .u8 (0)), (.int .u8 (0)), (.int .u8 (0))]) := by kernel_rfl
theorem Try.ld_108 {σ : AHeap} {b o : Nat} : ldVar Try.prog 108 σ b o = (ldCells σ b o 4).map fun vs => .agg vs.toArray := by simp only [ldVar, Try.isAgg_108, Try.size_108]
theorem Try.st_108 {σ : AHeap} {b o : Nat} {v : Value} : storeV Try.prog 108 (.pointer (some ⟨b, o, none⟩)) v σ = if v.cells.size = 4 then (stCells σ b o v.cells.toList).map fun σ => (undef, σ) else none := by simp only [storeV, Try.size_108]
theorem Try.fa_108_0 {b o : Nat} : fieldAddr Try.prog 108 (.pointer (some ⟨b, o, none⟩)) 0 = some (.pointer (some ⟨b, o, none⟩)) := by kernel_rfl
theorem Try.fa_108_1 {b o : Nat} : fieldAddr Try.prog 108 (.pointer (some ⟨b, o, none⟩)) 1 = some (.pointer (some ⟨b, o + 1, none⟩)) := by kernel_rfl
theorem Try.fa_108_2 {b o : Nat} : fieldAddr Try.prog 108 (.pointer (some ⟨b, o, none⟩)) 2 = some (.pointer (some ⟨b, o + 2, none⟩)) := by kernel_rfl
theorem Try.fa_108_3 {b o : Nat} : fieldAddr Try.prog 108 (.pointer (some ⟨b, o, none⟩)) 3 = some (.pointer (some ⟨b, o + 3, none⟩)) := by kernel_rfl
theorem Try.len_109 {a : Option Addr} {m c : Nat} {σ : AHeap} : builtin' Try.prog .len #[109] [.slice a m c] σ = some (.int .i64 (m : Int), σ) := Go.AE.len_slice Try.underlying109
theorem Try.ia_109 {b o len cap : Nat} {ix : Value} : indexAddr Try.prog 109 (.slice (some ⟨b, o, none⟩) len cap) ix = (idx ix len).map fun i => .pointer (some ⟨b, o + i * 10, none⟩) := Go.AE.indexAddr_slice Try.underlying109 Try.size_120
theorem Try.isAgg_111 : isAgg' Try.prog 111 = some true := by kernel_rfl
theorem Try.zero_111 : zeroOf Try.prog 111 = some (.agg #[(.int .i64 (0)), (.int .i64 (0))]) := by kernel_rfl
theorem Try.ld_111 {σ : AHeap} {b o : Nat} : ldVar Try.prog 111 σ b o = (ldCells σ b o 2).map fun vs => .agg vs.toArray := by simp only [ldVar, Try.isAgg_111, Try.size_111]
theorem Try.st_111 {σ : AHeap} {b o : Nat} {v : Value} : storeV Try.prog 111 (.pointer (some ⟨b, o, none⟩)) v σ = if v.cells.size = 2 then (stCells σ b o v.cells.toList).map fun σ => (undef, σ) else none := by simp only [storeV, Try.size_111]
theorem Try.ia_111 {b o : Nat} {ix : Value} : indexAddr Try.prog 111 (.pointer (some ⟨b, o, none⟩)) ix = (idx ix 2).map fun i => .pointer (some ⟨b, o + i * 1, none⟩) := Go.AE.indexAddr_array Try.underlying111 Try.size_3
theorem Try.isAgg_117 : isAgg' Try.prog 117 = some true := by kernel_rfl
theorem Try.zero_117 : zeroOf Try.prog 117 = some (.agg #[(.int .u8 (0)), (.int .u8 (0)), (.int .u8 (0)), (.int .u8 (0)), (.int .u8 (0)), (.int .u8 (0))]) := by kernel_rfl
theorem Try.ld_117 {σ : AHeap} {b o : Nat} : ldVar Try.prog 117 σ b o = (ldCells σ b o 6).map fun vs => .agg vs.toArray := by simp only [ldVar, Try.isAgg_117, Try.size_117]
theorem Try.st_117 {σ : AHeap} {b o : Nat} {v : Value} : storeV Try.prog 117 (.pointer (some ⟨b, o, none⟩)) v σ = if v.cells.size = 6 then (stCells σ b o v.cells.toList).map fun σ => (undef, σ) else none := by simp only [storeV, Try.size_117]
theorem Try.ia_117 {b o : Nat} {ix : Value} : indexAddr Try.prog 117 (.pointer (some ⟨b, o, none⟩)) ix = (idx ix 6).map fun i => .pointer (some ⟨b, o + i * 1, none⟩) := Go.AE.indexAddr_array Try.underlying117 Try.size_5
theorem Try.isAgg_120 : isAgg' Try.prog 120 = some true := by kernel_rfl
theorem Try.zero_120 : zeroOf Try.prog 120 = some (.agg #[(.int .i64 (0)), (.int .u8 (0)), (.int .u8 (0)), (.int .u8 (0)), (.int .u8 (0)), (.int .u8 (0)), (.int .u8 (0)), (.int .i64 (0)), (.int .i64 (0)), (.bool false)]) := by kernel_rfl
theorem Try.elem_120 : elemOk Try.prog 120 = some (10, [(.int .i64 (0)), (.int .u8 (0)), (.int .u8 (0)), (.int .u8 (0)), (.int .u8 (0)), (.int .u8 (0)), (.int .u8 (0)), (.int .i64 (0)), (.int .i64 (0)), (.bool false)]) := by kernel_rfl
theorem Try.ld_120 {σ : AHeap} {b o : Nat} : ldVar Try.prog 120 σ b o = (ldCells σ b o 10).map fun vs => .agg vs.toArray := by simp only [ldVar, Try.isAgg_120, Try.size_120]
theorem Try.st_120 {σ : AHeap} {b o : Nat} {v : Value} : storeV Try.prog 120 (.pointer (some ⟨b, o, none⟩)) v σ = if v.cells.size = 10 then (stCells σ b o v.cells.toList).map fun σ => (undef, σ) else none := by simp only [storeV, Try.size_120]
theorem Try.fa_120_2 {b o : Nat} : fieldAddr Try.prog 120 (.pointer (some ⟨b, o, none⟩)) 2 = some (.pointer (some ⟨b, o + 7, none⟩)) := by kernel_rfl
theorem Try.fa_120_3 {b o : Nat} : fieldAddr Try.prog 120 (.pointer (some ⟨b, o, none⟩)) 3 = some (.pointer (some ⟨b, o + 8, none⟩)) := by kernel_rfl
theorem Try.fa_120_4 {b o : Nat} : fieldAddr Try.prog 120 (.pointer (some ⟨b, o, none⟩)) 4 = some (.pointer (some ⟨b, o + 9, none⟩)) := by kernel_rfl
theorem Try.fa_137_0 {b o : Nat} : fieldAddr Try.prog 137 (.pointer (some ⟨b, o, none⟩)) 0 = some (.pointer (some ⟨b, o, none⟩)) := by kernel_rfl
theorem Try.fa_137_1 {b o : Nat} : fieldAddr Try.prog 137 (.pointer (some ⟨b, o, none⟩)) 1 = some (.pointer (some ⟨b, o + 1, none⟩)) := by kernel_rfl
theorem Try.mi_175 {v : Value} : ifaceV Try.prog 175 v = some (.iface 175 v) := by kernel_rfl
theorem Try.fa_175_0 {b o : Nat} : fieldAddr Try.prog 175 (.pointer (some ⟨b, o, none⟩)) 0 = some (.pointer (some ⟨b, o, none⟩)) := by kernel_rfl
theorem Try.isAgg_193 : isAgg' Try.prog 193 = some false := by kernel_rfl
theorem Try.ld_193 {σ : AHeap} {b o : Nat} : ldVar Try.prog 193 σ b o = ld σ b o := by simp only [ldVar, Try.isAgg_193]
theorem Try.fa_195_0 {b o : Nat} : fieldAddr Try.prog 195 (.pointer (some ⟨b, o, none⟩)) 0 = some (.pointer (some ⟨b, o, none⟩)) := by kernel_rfl
theorem Try.fa_195_1 {b o : Nat} : fieldAddr Try.prog 195 (.pointer (some ⟨b, o, none⟩)) 1 = some (.pointer (some ⟨b, o + 1, none⟩)) := by kernel_rfl
theorem Try.fa_195_2 {b o : Nat} : fieldAddr Try.prog 195 (.pointer (some ⟨b, o, none⟩)) 2 = some (.pointer (some ⟨b, o + 2, none⟩)) := by kernel_rfl
theorem Try.fa_195_3 {b o : Nat} : fieldAddr Try.prog 195 (.pointer (some ⟨b, o, none⟩)) 3 = some (.pointer (some ⟨b, o + 3, none⟩)) := by kernel_rfl
theorem Try.zero_249 : zeroOf Try.prog 249 = some (.agg #[(.int .u8 (0)), (.int .u8 (0))]) := by kernel_rfl
theorem Try.st_249 {σ : AHeap} {b o : Nat} {v : Value} : storeV Try.prog 249 (.pointer (some ⟨b, o, none⟩)) v σ = if v.cells.size = 2 then (stCells σ b o v.cells.toList).map fun σ => (undef, σ) else none := by simp only [storeV, Try.size_249]
theorem Try.len_266 {a : Option Addr} {m c : Nat} {σ : AHeap} : builtin' Try.prog .len #[266] [.slice a m c] σ = some (.int .i64 (m : Int), σ) := Go.AE.len_slice Try.underlying266
theorem Try.ia_266 {b o len cap : Nat} {ix : Value} : indexAddr Try.prog 266 (.slice (some ⟨b, o, none⟩) len cap) ix = (idx ix len).map fun i => .pointer (some ⟨b, o + i * 1, none⟩) := Go.AE.indexAddr_slice Try.underlying266 Try.size_3
theorem Try.enters_20 : enters Try.prog 20 = true := by kernel_rfl
theorem Try.enters_23 : enters Try.prog 23 = true := by kernel_rfl
theorem Try.enters_24 : enters Try.prog 24 = true := by kernel_rfl
theorem Try.enters_27 : enters Try.prog 27 = true := by kernel_rfl
theorem Try.enters_28 : enters Try.prog 28 = true := by kernel_rfl
theorem Try.enters_30 : enters Try.prog 30 = true := by kernel_rfl
theorem Try.enters_36 : enters Try.prog 36 = true := by kernel_rfl
theorem Try.enters_38 : enters Try.prog 38 = true := by kernel_rfl
theorem Try.enters_39 : enters Try.prog 39 = true := by kernel_rfl
theorem Try.enters_40 : enters Try.prog 40 = true := by kernel_rfl
theorem Try.enters_42 : enters Try.prog 42 = true := by kernel_rfl
theorem Try.enters_47 : enters Try.prog 47 = true := by kernel_rfl
theorem Try.enters_64 : enters Try.prog 64 = true := by kernel_rfl
theorem Try.enters_65 : enters Try.prog 65 = true := by kernel_rfl
theorem Try.enters_66 : enters Try.prog 66 = true := by kernel_rfl
theorem Try.enters_67 : enters Try.prog 67 = true := by kernel_rfl
theorem Try.enters_68 : enters Try.prog 68 = true := by kernel_rfl
theorem Try.enters_69 : enters Try.prog 69 = true := by kernel_rfl
theorem Try.enters_70 : enters Try.prog 70 = true := by kernel_rfl
theorem Try.enters_72 : enters Try.prog 72 = true := by kernel_rfl
theorem Try.enters_74 : enters Try.prog 74 = true := by kernel_rfl
theorem Try.enters_99 : enters Try.prog 99 = true := by kernel_rfl
theorem Try.enters_102 : enters Try.prog 102 = true := by kernel_rfl
theorem Try.enters_103 : enters Try.prog 103 = true := by kernel_rfl
theorem Try.enters_105 : enters Try.prog 105 = true := by kernel_rfl
theorem Try.enters_106 : enters Try.prog 106 = true := by kernel_rfl
theorem Try.enters_107 : enters Try.prog 107 = true := by kernel_rfl
theorem Try.enters_115 : enters Try.prog 115 = true := by kernel_rfl
theorem Try.enters_118 : enters Try.prog 118 = true := by kernel_rfl
theorem Try.enters_119 : enters Try.prog 119 = true := by kernel_rfl
theorem Try.enters_120 : enters Try.prog 120 = true := by kernel_rfl
theorem Try.enters_126 : enters Try.prog 126 = true := by kernel_rfl
theorem Try.enters_127 : enters Try.prog 127 = true := by kernel_rfl
theorem Try.enters_128 : enters Try.prog 128 = true := by kernel_rfl
theorem Try.enters_129 : enters Try.prog 129 = true := by kernel_rfl
theorem Try.enters_130 : enters Try.prog 130 = true := by kernel_rfl
theorem Try.enters_131 : enters Try.prog 131 = true := by kernel_rfl
theorem Try.enters_151 : enters Try.prog 151 = true := by kernel_rfl
theorem Try.enters_152 : enters Try.prog 152 = true := by kernel_rfl
theorem Try.enters_153 : enters Try.prog 153 = true := by kernel_rfl
theorem Try.enters_154 : enters Try.prog 154 = true := by kernel_rfl
theorem Try.enters_156 : enters Try.prog 156 = true := by kernel_rfl
theorem Try.enters_165 : enters Try.prog 165 = true := by kernel_rfl
theorem Try.enters_166 : enters Try.prog 166 = true := by kernel_rfl
theorem Try.enters_185 : enters Try.prog 185 = true := by kernel_rfl
theorem Try.enters_186 : enters Try.prog 186 = true := by kernel_rfl
theorem Try.enters_191 : enters Try.prog 191 = true := by kernel_rfl
theorem Try.enters_192 : enters Try.prog 192 = true := by kernel_rfl
theorem Try.enters_193 : enters Try.prog 193 = true := by kernel_rfl
theorem Try.enters_211 : enters Try.prog 211 = true := by kernel_rfl
theorem Try.enters_234 : enters Try.prog 234 = true := by kernel_rfl
theorem Try.enters_235 : enters Try.prog 235 = true := by kernel_rfl
theorem Try.enters_236 : enters Try.prog 236 = true := by kernel_rfl
theorem Try.enters_237 : enters Try.prog 237 = true := by kernel_rfl
end Go.Proofs
end
