import Derived.Test.YtpheeljemkpnaaaDoorG
namespace Go.Proofs.YtpheeljemkpnaaaDoor.AW
open Go.BigFrame Go.RowKit Go.Proofs.YtpheeljemkpnaaaDoorW.PrintWords Go.Proofs.YtpheeljemkpnaaaDoorW.PrintLast Go.Proofs.YtpheeljemkpnaaaDoorW.PrintMore
set_option linter.unusedVariables false
set_option linter.unusedSimpArgs false
set_option maxRecDepth 100000

def crossPs : List (Bool × Int) := [(false, 2), (true, 2), (false, 18)]
def ackPs : List (Bool × Int) := [(false, 16)]
def synPs : List (Bool × Int) := [(false, 2)]
theorem parts_cross (w : World) : Parts (w.alloc (.cells #[.bool false, .int .u8 2, .bool true, .int .u8 2, .bool false, .int .u8 18] 24)) (some ⟨w.heap.size, 0, none⟩) crossPs := by
  intro i hi
  have : i = 0 ∨ i = 1 ∨ i = 2 := by simp [crossPs] at hi; omega
  refine ⟨_, rfl, ?_⟩
  rcases this with rfl | rfl | rfl <;> constructor <;> go_simp <;> rfl
theorem parts_ack0 (w : World) : Parts (w.alloc (.cells #[.bool false, .int .u8 16] 24)) (some ⟨w.heap.size, 0, none⟩) ackPs := by
  intro i hi
  have : i = 0 := by simp [ackPs] at hi; omega
  refine ⟨_, rfl, ?_⟩
  subst this
  constructor <;> go_simp <;> rfl
theorem parts_syn0 (w : World) : Parts (w.alloc (.cells #[.bool false, .int .u8 2] 24)) (some ⟨w.heap.size, 0, none⟩) synPs := by
  intro i hi
  have : i = 0 := by simp [synPs] at hi; omega
  refine ⟨_, rfl, ?_⟩
  subst this
  constructor <;> go_simp <;> rfl
theorem r_cross (a : Addr) (w : World) (hT : Tabs w) (hP : Parts w (some a) crossPs) : Calls Tryd.prog 14 #[.int .i64 0, .slice (some a) 3 3] w fun e w' => e = .returned (.int .i64 3) ∧ Below w.heap.size w w' := by
  have h := runs_any 0 (by omega) crossPs (some a) 3 w hT hP (by decide)
  rw [show runsN 0 crossPs = 3 by decide] at h
  exact h
theorem parts_ack (w : World) (n : Nat) : Parts ((w.drewN n).alloc (.cells #[.bool false, .int .u8 16] 24)) (some ⟨w.heap.size, 0, none⟩) ackPs := parts_ack0 (w.drewN n)
theorem r_ack (a : Addr) (w : World) (hT : Tabs w) (hP : Parts w (some a) ackPs) : Calls Tryd.prog 14 #[.int .i64 3, .slice (some a) 1 1] w fun e w' => e = .returned (.int .i64 4) ∧ Below w.heap.size w w' := by
  have h := runs_any 3 (by omega) ackPs (some a) 1 w hT hP (by decide)
  rw [show runsN 3 ackPs = 4 by decide] at h
  exact h
theorem parts_syn (w : World) (n : Nat) : Parts ((w.drewN n).alloc (.cells #[.bool false, .int .u8 2] 24)) (some ⟨w.heap.size, 0, none⟩) synPs := parts_syn0 (w.drewN n)
theorem r_syn (a : Addr) (w : World) (hT : Tabs w) (hP : Parts w (some a) synPs) : Calls Tryd.prog 14 #[.int .i64 9, .slice (some a) 1 1] w fun e w' => e = .returned (.int .i64 1) ∧ Below w.heap.size w w' := by
  have h := runs_any 9 (by omega) synPs (some a) 1 w hT hP (by decide)
  rw [show runsN 9 synPs = 1 by decide] at h
  exact h
theorem n_a (w : World) : Calls Tryd.prog 10 #[.int .i64 (-1), .bool false, .int .u8 2] w fun e w' => e = .returned (.tuple #[.int .i64 (-1), .bool false]) ∧ Drawn0 w w' := next_out _ _ _ w (by omega)
theorem n_b (w : World) : Calls Tryd.prog 10 #[.int .i64 10, .bool false, .int .u8 2] w fun e w' => e = .returned (.tuple #[.int .i64 10, .bool false]) ∧ Drawn0 w w' := next_out _ _ _ w (by omega)
theorem n_c (w : World) (hT : Tabs w) : Calls Tryd.prog 10 #[.int .i64 0, .bool false, .int .u8 16] w fun e w' => e = .returned (.tuple #[.int .i64 0, .bool false]) ∧ Drawn0 w w' := by
  have h := next_any 0 (by omega) false 16 w hT
  rw [show stepN 0 false 16 = (0, false) by decide] at h
  exact h
theorem n_d (w : World) (hT : Tabs w) : Calls Tryd.prog 10 #[.int .i64 0, .bool true, .int .u8 2] w fun e w' => e = .returned (.tuple #[.int .i64 0, .bool false]) ∧ Drawn0 w w' := by
  have h := next_any 0 (by omega) true 2 w hT
  rw [show stepN 0 true 2 = (0, false) by decide] at h
  exact h
theorem n_e (w : World) (hT : Tabs w) : Calls Tryd.prog 10 #[.int .i64 4, .bool false, .int .u8 2] w fun e w' => e = .returned (.tuple #[.int .i64 4, .bool false]) ∧ Drawn0 w w' := by
  have h := next_any 4 (by omega) false 2 w hT
  rw [show stepN 4 false 2 = (4, false) by decide] at h
  exact h
theorem t_4 (w : World) (hT : Ticx w) : Calls Tryd.prog 17 #[.int .i64 4] w fun e w' => e = .returned (.int .i64 432000) ∧ Drawn0 w w' := ticks_in 4 (by omega) w hT
theorem t_10 (w : World) : Calls Tryd.prog 17 #[.int .i64 10] w fun e w' => e = .returned (.int .i64 0) ∧ Drawn0 w w' := ticks_out _ (by omega) w
theorem t_m (w : World) : Calls Tryd.prog 17 #[.int .i64 (-1)] w fun e w' => e = .returned (.int .i64 0) ∧ Drawn0 w w' := ticks_out _ (by omega) w
theorem x_10 (w : World) : Calls Tryd.prog 19 #[.int .i64 10] w fun e w' => e = .returned (.string ⟨#[]⟩) ∧ Drawn0 w w' := text_out _ (by omega) w
theorem x_6 (w : World) (hT : Txts w) : Calls Tryd.prog 19 #[.int .i64 6] w fun e w' => e = .returned (.string ⟨#[104, 97, 108, 102, 45, 98]⟩) ∧ Drawn0 w w' := text_in 6 (by omega) w hT
theorem k_19 (w : World) : Calls Tryd.prog 13 #[.int .u8 19] w fun e w' => e = .returned (.int .i64 0) ∧ w = w' := by
  have h := kind_calls 19 w
  rw [show kindOf 19 = 0 by decide] at h
  exact h
theorem k_28 (w : World) : Calls Tryd.prog 13 #[.int .u8 28] w fun e w' => e = .returned (.int .i64 5) ∧ w = w' := by
  have h := kind_calls 28 w
  rw [show kindOf 28 = 5 by decide] at h
  exact h

set_option maxHeartbeats 2000000 in
theorem known_law (w : World) (hT : Tabs w) (hO : Opn w) (hK : Ticx w) (hX : Txts w) :
    Calls Tryd.prog 9 #[] w fun e w' => e = .returned (.bool true) ∧ Below w.heap.size w w' := by
  have HT := Aside0.mk hT
  have HO := Aside0.mk hO
  have HK := Aside0.mk hK
  have HX := Aside0.mk hX
  clear hT hO hK hX
  go_enter Tryd.func9, Tryd.ntmps9
  go_wp2_with (first
    | (go_at_call 14; (with_reducible refine (r_cross _ _ (HT.out.below (Bel.out <| by repeat (first | assumption | exact Bel.refl _ | apply Bel.drewN | apply Bel.alloc | refine Bel.trans ?_ (by assumption)))) (parts_cross _)).mono ?_); rintro e w1 ⟨rfl, hb⟩; replace hb := Bel.mk hb)
    | (go_at_call 14; (with_reducible refine (r_ack _ _ (HT.out.below (Bel.out <| by repeat (first | assumption | exact Bel.refl _ | apply Bel.drewN | apply Bel.alloc | refine Bel.trans ?_ (by assumption)))) (parts_ack _ _)).mono ?_); rintro e w2 ⟨rfl, hb⟩; replace hb := Bel.mk hb)
    | (go_at_call 14; (with_reducible refine (r_syn _ _ (HT.out.below (Bel.out <| by repeat (first | assumption | exact Bel.refl _ | apply Bel.drewN | apply Bel.alloc | refine Bel.trans ?_ (by assumption)))) (parts_syn _ _)).mono ?_); rintro e w3 ⟨rfl, hb⟩; replace hb := Bel.mk hb)
    | (go_at_call 10; (with_reducible refine (n_a _).mono ?_); rintro e w' ⟨rfl, ⟨m1, rfl⟩⟩)
    | (go_at_call 10; (with_reducible refine (n_b _).mono ?_); rintro e w' ⟨rfl, ⟨m2, rfl⟩⟩)
    | (go_at_call 10; (with_reducible refine (n_c _ (HT.out.below (Bel.out <| by repeat (first | assumption | exact Bel.refl _ | apply Bel.drewN | apply Bel.alloc | refine Bel.trans ?_ (by assumption))))).mono ?_); rintro e w' ⟨rfl, ⟨m3, rfl⟩⟩)
    | (go_at_call 10; (with_reducible refine (n_d _ (HT.out.below (Bel.out <| by repeat (first | assumption | exact Bel.refl _ | apply Bel.drewN | apply Bel.alloc | refine Bel.trans ?_ (by assumption))))).mono ?_); rintro e w' ⟨rfl, ⟨m4, rfl⟩⟩)
    | (go_at_call 10; (with_reducible refine (n_e _ (HT.out.below (Bel.out <| by repeat (first | assumption | exact Bel.refl _ | apply Bel.drewN | apply Bel.alloc | refine Bel.trans ?_ (by assumption))))).mono ?_); rintro e w' ⟨rfl, ⟨m5, rfl⟩⟩)
    | (go_at_call 17; (with_reducible refine (t_4 _ (HK.out.below (Bel.out <| by repeat (first | assumption | exact Bel.refl _ | apply Bel.drewN | apply Bel.alloc | refine Bel.trans ?_ (by assumption))))).mono ?_); rintro e w' ⟨rfl, ⟨m6, rfl⟩⟩)
    | (go_at_call 17; (with_reducible refine (t_10 _).mono ?_); rintro e w' ⟨rfl, ⟨m7, rfl⟩⟩)
    | (go_at_call 17; (with_reducible refine (t_m _).mono ?_); rintro e w' ⟨rfl, ⟨m8, rfl⟩⟩)
    | (go_at_call 19; (with_reducible refine (x_10 _).mono ?_); rintro e w' ⟨rfl, ⟨m9, rfl⟩⟩)
    | (go_at_call 19; (with_reducible refine (x_6 _ (HX.out.below (Bel.out <| by repeat (first | assumption | exact Bel.refl _ | apply Bel.drewN | apply Bel.alloc | refine Bel.trans ?_ (by assumption))))).mono ?_); rintro e w' ⟨rfl, ⟨m10, rfl⟩⟩)
    | (go_at_call 13; (with_reducible refine (k_19 _).mono ?_); rintro e w' ⟨rfl, rfl⟩)
    | (go_at_call 13; (with_reducible refine (k_28 _).mono ?_); rintro e w' ⟨rfl, rfl⟩)
    | (go_at_call 12; (with_reducible refine (wakes_any _ (HT.out.below (Bel.out <| by repeat (first | assumption | exact Bel.refl _ | apply Bel.drewN | apply Bel.alloc | refine Bel.trans ?_ (by assumption)))) (HO.out.below (Bel.out <| by repeat (first | assumption | exact Bel.refl _ | apply Bel.drewN | apply Bel.alloc | refine Bel.trans ?_ (by assumption))))).mono ?_); rintro e w9 ⟨rfl, hb⟩; replace hb := Bel.mk hb))
  go_ret
  refine ⟨rfl, ?_⟩
  exact (Bel.out <| by repeat (first | assumption | exact Bel.refl _ | apply Bel.drewN | apply Bel.alloc | refine Bel.trans ?_ (by assumption)))
end Go.Proofs.YtpheeljemkpnaaaDoor.AW
