import Derived.Test.YtpheeljemkpnaaaDoorB
namespace Go.Proofs.YtpheeljemkpnaaaDoor.AW
open Go.BigFrame Go.RowKit Go.Proofs.YtpheeljemkpnaaaDoorW.PrintWords Go.Proofs.YtpheeljemkpnaaaDoorW.PrintLast Go.Proofs.YtpheeljemkpnaaaDoorW.PrintMore
set_option linter.unusedVariables false
set_option linter.unusedSimpArgs false

theorem bel_trans {w w1 w2 : World} (h : Below w.heap.size w w1) (k : Below w1.heap.size w1 w2) : Below w.heap.size w w2 := h.trans (k.mono h.size)
def openPs : List (Bool × Int) := [(false, 2), (true, 18), (false, 16)]
def finPs : List (Bool × Int) := [(false, 17), (true, 17), (false, 16)]
/-- The three steps, as they lie. -/
def Opn (w : World) : Prop := ∃ a c, w.cell? ⟨0, 0, none⟩ = some (.slice (some a) 3 c) ∧ Parts w (some a) openPs
theorem Opn.below {w w1 : World} (h : Opn w) (hb : Below w.heap.size w w1) : Opn w1 := by
  obtain ⟨a, c, h1, h2⟩ := h
  exact ⟨a, c, pw_cell_below hb h1, h2.below hb⟩
theorem runs_open : runsN 0 openPs = 4 := by decide
theorem runs_fin : runsN 4 finPs = 8 := by decide
theorem kind_one : kindOf 1 = 0 := by decide

theorem parts_lit (w : World) : Parts (w.alloc (.cells #[.bool false, .int .u8 17, .bool true, .int .u8 17, .bool false, .int .u8 16] 24)) (some ⟨w.heap.size, 0, none⟩) finPs := by
  intro i hi
  have : i = 0 ∨ i = 1 ∨ i = 2 := by simp [finPs] at hi; omega
  refine ⟨_, rfl, ?_⟩
  rcases this with rfl | rfl | rfl <;> constructor <;> go_simp <;> rfl

theorem runs_open_c (a : Addr) (c : Nat) (w : World) (hT : Tabs w) (hP : Parts w (some a) openPs) :
    Calls Tryd.prog 14 #[.int .i64 0, .slice (some a) 3 c] w fun e w' => e = .returned (.int .i64 4) ∧ Below w.heap.size w w' := by
  have h := runs_any 0 (by omega) openPs (some a) c w hT hP (by decide)
  rw [runs_open] at h
  exact h
theorem runs_fin_c (a : Addr) (c : Nat) (w : World) (hT : Tabs w) (hP : Parts w (some a) finPs) :
    Calls Tryd.prog 14 #[.int .i64 4, .slice (some a) 3 c] w fun e w' => e = .returned (.int .i64 8) ∧ Below w.heap.size w w' := by
  have h := runs_any 4 (by omega) finPs (some a) c w hT hP (by decide)
  rw [runs_fin] at h
  exact h
theorem kind_one_c (w : World) : Calls Tryd.prog 13 #[.int .u8 1] w fun e w' => e = .returned (.int .i64 0) ∧ w = w' := by
  have h := kind_calls 1 w
  rw [kind_one] at h
  exact h

set_option maxHeartbeats 1000000 in
theorem wakes_any (w : World) (hT : Tabs w) (hO : Opn w) :
    Calls Tryd.prog 12 #[] w fun e w' => e = .returned (.bool true) ∧ Below w.heap.size w w' := by
  have HT := Aside0.mk hT
  obtain ⟨a, c, ho, hp⟩ := hO
  have HP := Aside0.mk hp
  clear hT hp
  have HB := Aside0.mk (Below.refl w.heap.size w)
  go_enter Tryd.func12, Tryd.ntmps12
  go_wp2_with (first
    | (go_at_call 14; (with_reducible refine (runs_open_c a c w HT.out HP.out).mono ?_); rintro e w1 ⟨rfl, hb⟩; have HB1 := Aside0.mk hb; clear hb)
    | (go_at_call 14; (with_reducible refine (runs_fin_c _ _ _ (HT.out.below (by repeat (first | exact HB1.out | apply below_alloc | apply pw_below_drewN))) (parts_lit _)).mono ?_); rintro e w2 ⟨rfl, hb⟩; have HB2 := Aside0.mk hb; clear hb)
    | (go_at_call 13; (with_reducible refine (kind_one_c _).mono ?_); rintro e w3 ⟨rfl, rfl⟩))
  go_ret
  exact ⟨rfl, bel_trans (below_alloc HB1.out _) HB2.out⟩
end Go.Proofs.YtpheeljemkpnaaaDoor.AW
