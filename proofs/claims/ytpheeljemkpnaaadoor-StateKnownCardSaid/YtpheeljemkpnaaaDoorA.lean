import Derived.Test.YtpheeljemkpnaaaDoorProg
import Derived.Test.YtpheeljemkpnaaaDoorPStateRunsx
import Derived.IntWalk
namespace Go.Proofs.YtpheeljemkpnaaaDoor.AW
open Go.BigFrame Go.RowKit Go.Proofs.YtpheeljemkpnaaaDoorW.PrintWords Go.Proofs.YtpheeljemkpnaaaDoorW.PrintLast Go.Proofs.YtpheeljemkpnaaaDoorW.PrintMore
set_option linter.unusedVariables false
set_option linter.unusedSimpArgs false

/-- The table, row by row. -/
def T3 : List (List (List Int)) :=
  [[[-1, 1, -1, -1, -1, -1], [-1, -1, -1, -1, -1, -1]],
   [[-1, 1, -1, -1, -1, 9], [-1, 2, 3, -1, -1, 9]],
   [[-1, 2, 3, -1, -1, 9], [-1, 2, 3, -1, -1, 9]],
   [[-1, 3, 3, 4, 5, 9], [-1, -1, 3, 3, 6, 9]],
   [[-1, -1, 4, 4, 5, 9], [-1, -1, 4, 4, 6, 9]],
   [[-1, -1, -1, 5, 5, 9], [-1, -1, -1, 5, 7, 9]],
   [[-1, -1, -1, 6, 7, 9], [-1, -1, -1, 6, 6, 9]],
   [[-1, -1, -1, 8, 7, 9], [-1, -1, -1, 8, 7, 9]],
   [[-1, 1, -1, 8, 8, 9], [-1, -1, -1, 8, 8, 9]],
   [[-1, 1, -1, -1, -1, 9], [-1, -1, -1, -1, -1, 9]]]
def at3 (s side k : Nat) : Int := ((T3.getD s []).getD side []).getD k 0

/-- What the walks ask of a world: the table's cells, and the three steps. -/
structure Tabs (w : World) : Prop where
  tab : ∀ s side k : Nat, s < 10 → side < 2 → k < 6 → w.cell? ⟨1, s * 12 + side * 6 + k, none⟩ = some (.int .i64 (at3 s side k))

theorem Tabs.below {w w1 : World} (h : Tabs w) (hb : Below w.heap.size w w1) : Tabs w1 := ⟨fun s side k h1 h2 h3 => pw_cell_below hb (h.tab s side k h1 h2 h3)⟩

def kindOf (f : Int) : Int := (PStateRuns.tcpstate_Kind.f f).getD 0

theorem kind_f (f : Int) : PStateRuns.tcpstate_Kind.f f = some (kindOf f) := by
  unfold kindOf PStateRuns.tcpstate_Kind.f
  repeat' split
  all_goals rfl

theorem Calls.quiet_of_same' {P : Program} {f : FuncId} {args : Array Value} {w : World} {n : Nat} {v : Value}
    (h : Calls P f args (w.drewN n) fun e w' => e = .returned v ∧ w.drewN n = w') : Calls P f args (w.drewN n) fun e w'' => e = .returned v ∧ ∃ m, w'' = w.drewN m :=
  h.mono fun _ _ ⟨he, hm⟩ => ⟨he, n, hm.symm⟩

theorem kind_calls (f : Int) (w : World) : Calls Tryd.prog 13 #[.int .u8 f] w fun e w' => e = .returned (.int .i64 (kindOf f)) ∧ w = w' := by
  unfold kindOf PStateRuns.tcpstate_Kind.f
  generalize hx : Go.bits .and .u8 f 23 = x
  have hX := Aside0.mk hx
  repeat' split
  all_goals
    go_enter Tryd.func13, Tryd.ntmps13
    go_wp2
    all_goals go_ret
    all_goals exact ⟨by simp_all, rfl⟩

theorem may_yes (s : Int) (h0 : 0 ≤ s) (h1 : s < 10) (w : World) : Calls Tryd.prog 21 #[.int .i64 s] w fun e w' => e = .returned (.bool true) ∧ w = w' := by
  go_enter Tryd.func21, Tryd.ntmps21
  go_wp2
  go_ret
  exact ⟨rfl, rfl⟩
theorem may_no (s : Int) (h : s < 0 ∨ 10 ≤ s) (w : World) : Calls Tryd.prog 21 #[.int .i64 s] w fun e w' => e = .returned (.bool false) ∧ w = w' := by
  rcases h with h | h
  · go_enter Tryd.func21, Tryd.ntmps21
    go_wp2
    go_ret
    exact ⟨rfl, rfl⟩
  · have h0 : 0 ≤ s := by omega
    have h1 : decide (s < 10) = false := by simp; omega
    clear h
    go_enter Tryd.func21, Tryd.ntmps21
    go_wp2
    go_ret
    exact ⟨rfl, rfl⟩

set_option maxHeartbeats 1000000 in
theorem next_out (s : Int) (r : Bool) (f : Int) (w : World) (h : s < 0 ∨ 10 ≤ s) :
    Calls Tryd.prog 10 #[.int .i64 s, .bool r, .int .u8 f] w fun e w' => e = .returned (.tuple #[.int .i64 s, .bool false]) ∧ Drawn0 w w' := by
  go_enter Tryd.func10, Tryd.ntmps10
  go_wp2_with (go_at_call 21; refine (may_no s h _).mono ?_; rintro e w' ⟨rfl, rfl⟩)
  all_goals go_ret2
  all_goals exact ⟨rfl, by repeat (first | exact Drawn0.refl _ | apply Drawn0.step)⟩

set_option maxHeartbeats 2000000 in
theorem next_no (s : Nat) (hs : s < 10) (r : Bool) (f : Int) (k : Nat) (hk : k < 6) (hf : kindOf f = k) (w : World) (hT : Tabs w) (hv : at3 s (if r then 1 else 0) k = -1) :
    Calls Tryd.prog 10 #[.int .i64 s, .bool r, .int .u8 f] w fun e w' => e = .returned (.tuple #[.int .i64 s, .bool false]) ∧ Drawn0 w w' := by
  have hc := hT.tab s (if r then 1 else 0) k hs (by split <;> omega) hk
  have hkc : ∀ w, Calls Tryd.prog 13 #[.int .u8 f] w fun e w' => e = .returned (.int .i64 (k : Int)) ∧ w = w' := fun w => by rw [← hf]; exact kind_calls f w
  have hkk := Aside0.mk hkc
  rw [hv] at hc
  clear hkc hf hv
  cases r
  all_goals
    simp only [Bool.false_eq_true, if_false, if_true, Nat.zero_mul, Nat.add_zero, Nat.one_mul] at hc
    go_enter Tryd.func10, Tryd.ntmps10
    go_wp2_with (go_at_call 21; refine (may_yes s (by omega) (by omega) _).mono ?_; rintro e w' ⟨rfl, rfl⟩)
    go_quiet ((go_at_call 13; exact Calls.quiet_of_same' (hkk.out _)))
    go_wp2
    go_ret2
    exact ⟨rfl, by repeat (first | exact Drawn0.refl _ | apply Drawn0.step)⟩

set_option maxHeartbeats 2000000 in
theorem next_yes (s : Nat) (hs : s < 10) (r : Bool) (f : Int) (k : Nat) (hk : k < 6) (hf : kindOf f = k) (w : World) (hT : Tabs w) (v : Int) (hv : at3 s (if r then 1 else 0) k = v) (hn : 0 ≤ v) :
    Calls Tryd.prog 10 #[.int .i64 s, .bool r, .int .u8 f] w fun e w' => e = .returned (.tuple #[.int .i64 v, .bool true]) ∧ Drawn0 w w' := by
  have hc := hT.tab s (if r then 1 else 0) k hs (by split <;> omega) hk
  have hkc : ∀ w, Calls Tryd.prog 13 #[.int .u8 f] w fun e w' => e = .returned (.int .i64 (k : Int)) ∧ w = w' := fun w => by rw [← hf]; exact kind_calls f w
  have hkk := Aside0.mk hkc
  rw [hv] at hc
  have hb : (v == -1) = false := by simp; omega
  clear hkc hf hv hn
  cases r
  all_goals
    simp only [Bool.false_eq_true, if_false, if_true, Nat.zero_mul, Nat.add_zero, Nat.one_mul] at hc
    go_enter Tryd.func10, Tryd.ntmps10
    go_wp2_with (go_at_call 21; refine (may_yes s (by omega) (by omega) _).mono ?_; rintro e w' ⟨rfl, rfl⟩)
    go_quiet ((go_at_call 13; exact Calls.quiet_of_same' (hkk.out _)))
    go_wp2
    go_ret2
    exact ⟨rfl, by repeat (first | exact Drawn0.refl _ | apply Drawn0.step)⟩
end Go.Proofs.YtpheeljemkpnaaaDoor.AW
