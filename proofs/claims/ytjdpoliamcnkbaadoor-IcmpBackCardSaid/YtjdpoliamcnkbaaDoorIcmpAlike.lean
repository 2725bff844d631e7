import Derived.Test.YtjdpoliamcnkbaaDoorRefGet
import Derived.ChangeKeysEq
namespace Go.Proofs.YtjdpoliamcnkbaaDoor.T
open Go.BigFrame Go.RowKit Go.Proofs.YtjdpoliamcnkbaaDoorW.PrintWords
set_option linter.unusedVariables false
set_option linter.unusedSimpArgs false
set_option maxRecDepth 100000

theorem conv_reads {w : World} {A : Option Addr} {n c : Nat} {xs : List Int} (h : ReadsInt w .u8 A n xs) : (convert 23 9 (.slice A n c)).run Tryd.prog w = .ok (.string (strOfNums xs)) w :=
  string_of_reads Tryd.underlying23 Tryd.underlying5 Tryd.underlying9 h

theorem eq_arr4 (W : World) (a b c d : Int) : (binOp .eql 22 (.agg #[.int .u8 a, .int .u8 b, .int .u8 c, .int .u8 d]) (.agg #[.int .u8 a, .int .u8 b, .int .u8 c, .int .u8 d])).run Tryd.prog W = .ok (.bool true) W := by
  have his : (Tryd.prog.info? 5).isSome = true := by kernel_rfl
  obtain ⟨i, hi⟩ := Option.isSome_iff_exists.1 his
  have hc : Tryd.prog.cellsOf 5 = 1 := by kernel_rfl
  have hu : Tryd.prog.underlying 22 = some (.array 4 5) := by kernel_rfl
  rw [run_eql_struct, run_equalIn_array W 9999 _ _ hu hi, hc]
  have hr : List.range 4 = [0, 1, 2, 3] := by decide
  rw [hr]
  have e (x : Int) : (Op.equalIn 9999 5 (.int .u8 x) (.int .u8 x)).run Tryd.prog W = .ok true W := by
    rw [run_equalIn_int W 9998 5 .u8 .u8 x x Tryd.underlying5]; simp
  have hp : Tryd.prog.plainKey 5 = true := by kernel_rfl
  have p (j : Nat) (x : Int) (hx : (#[.int .u8 a, .int .u8 b, .int .u8 c, .int .u8 d] : Array Value)[j * 1]? = some (.int .u8 x)) := run_part_plain (P := Tryd.prog) W hp hx
  have p0 := p 0 a rfl
  have p1 := p 1 b rfl
  have p2 := p 2 c rfl
  have p3 := p 3 d rfl
  simp only [Op.eqItems, Sem.run_bind, Sem.run_pure, p0, p1, p2, p3, e, Result.andThen_ok, Sem.run_ite, Bool.not_true, Bool.false_eq_true, if_false]

set_option maxHeartbeats 1000000 in
theorem alike_law (t c r0 r1 r2 r3 : Int) (A B : Option Addr) (n na nb : Nat) (xs : List Int) (w : World) (ha : ReadsInt w .u8 A n xs) (hb : ReadsInt w .u8 B n xs) :
    Calls Tryd.prog 14 #[.agg #[.int .u8 t, .int .u8 c, .int .u8 r0, .int .u8 r1, .int .u8 r2, .int .u8 r3, .slice A n na], .agg #[.int .u8 t, .int .u8 c, .int .u8 r0, .int .u8 r1, .int .u8 r2, .int .u8 r3, .slice B n nb]] w fun e w' => e = .returned (.bool true) ∧ Bel w w' := by
  have HA := Aside0.mk ha
  have HB := Aside0.mk hb
  clear ha hb
  go_enter Tryd.func14, Tryd.ntmps14
  go_upto_region 1 with (fail)
  obtain ⟨W, hW⟩ : ∃ W, W = (w.alloc (.cells #[.int .u8 t, .int .u8 c, .int .u8 r0, .int .u8 r1, .int .u8 r2, .int .u8 r3, .slice A n na] 25)).alloc (.cells #[.int .u8 t, .int .u8 c, .int .u8 r0, .int .u8 r1, .int .u8 r2, .int .u8 r3, .slice B n nb] 34) := ⟨_, rfl⟩
  have hBl : Bel w W := by rw [hW]; exact ((Bel.refl w).alloc _).alloc _
  have ca := conv_reads (c := na) (hBl.reads HA.out)
  have cb := conv_reads (c := nb) (hBl.reads HB.out)
  rw [hW] at ca cb
  have hq (V : World) := eq_arr4 V r0 r1 r2 r3
  go_wp2
  go_ret
  exact ⟨rfl, by rw [← hW]; exact hBl⟩
end Go.Proofs.YtjdpoliamcnkbaaDoor.T
