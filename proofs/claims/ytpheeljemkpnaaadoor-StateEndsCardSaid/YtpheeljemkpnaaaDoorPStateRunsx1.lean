-- PRINTED BY print.sh 35421559b90ae4d0a3588c463048766b98c2df88dd9212a6774a882060cdf62d: not written by this session
import Derived.Test.YtpheeljemkpnaaaDoorPStateRunsx0
namespace Go.Proofs.YtpheeljemkpnaaaDoor.PStateRuns
open Go.RowKit Go.Proofs.YtpheeljemkpnaaaDoorW.PrintWords Go.Proofs.YtpheeljemkpnaaaDoorW.PrintLast Go.Proofs.YtpheeljemkpnaaaDoorW.PrintMore
attribute [local go_sem] max2_int min2_int max_two min_two max_three min_three max_four min_four   -- for this text's walks alone
set_option linter.unusedVariables false
set_option linter.unusedSimpArgs false

/-! ### tcpstate_Kind: function 13 -/
def tcpstate_Kind.f (a0 : Int) : Option (Int) := if (Go.bits .and .u8 a0 23) = 2 then (some 1) else (if (Go.bits .and .u8 a0 23) = 18 then (some 2) else (if (Go.bits .and .u8 a0 23) = 16 then (some 3) else (if (Go.bits .and .u8 a0 23) = 17 then (some 4) else (if (Go.bits .and .u8 a0 23) = 4 then (some 5) else (if (Go.bits .and .u8 a0 23) = 20 then (some 5) else (some 0))))))
set_option maxHeartbeats 8000000 in
set_option maxRecDepth 100000 in
theorem tcpstate_Kind.calls (a0 : Int) (r : Int) (w : World) (h : tcpstate_Kind.f a0 = some r) :
    Calls Tryd.prog 13 #[.int .u8 a0] w fun e w' => e = .returned (.int .i64 r) ∧ Drawn0 w w' := by
  have H : (if (Go.bits .and .u8 a0 23) = 2 then (some 1) else (if (Go.bits .and .u8 a0 23) = 18 then (some 2) else (if (Go.bits .and .u8 a0 23) = 16 then (some 3) else (if (Go.bits .and .u8 a0 23) = 17 then (some 4) else (if (Go.bits .and .u8 a0 23) = 4 then (some 5) else (if (Go.bits .and .u8 a0 23) = 20 then (some 5) else (some 0))))))) = some r := h
  clear h
  by_cases c2 : (Go.bits .and .u8 a0 23) = 2
  · rw [if_pos c2] at H
    have c2b0 : ((Go.bits .and .u8 a0 23) == 2) = true := beq_iff_eq.mpr c2
    have c2b1 : ((Go.bits .and .u8 a0 23) != 2) = false := bne_eq_false_iff_eq.mpr c2
    clear c2
    obtain rfl := Option.some.inj H
    go_enter Tryd.func13, Tryd.ntmps13
    go_wp2
    go_ret
    exact ⟨by first | rfl | (simp; done) | (simp [*]; done), by repeat (first | exact Drawn0.refl _ | apply Drawn0.step)⟩
  · rw [if_neg c2] at H
    have c2b0 : ((Go.bits .and .u8 a0 23) == 2) = false := beq_eq_false_iff_ne.mpr c2
    have c2b1 : ((Go.bits .and .u8 a0 23) != 2) = true := bne_iff_ne.mpr c2
    by_cases c3 : (Go.bits .and .u8 a0 23) = 18
    · rw [if_pos c3] at H
      have c3b0 : ((Go.bits .and .u8 a0 23) == 18) = true := beq_iff_eq.mpr c3
      have c3b1 : ((Go.bits .and .u8 a0 23) != 18) = false := bne_eq_false_iff_eq.mpr c3
      clear c3
      obtain rfl := Option.some.inj H
      go_enter Tryd.func13, Tryd.ntmps13
      go_wp2
      go_ret
      exact ⟨by first | rfl | (simp; done) | (simp [*]; done), by repeat (first | exact Drawn0.refl _ | apply Drawn0.step)⟩
    · rw [if_neg c3] at H
      have c3b0 : ((Go.bits .and .u8 a0 23) == 18) = false := beq_eq_false_iff_ne.mpr c3
      have c3b1 : ((Go.bits .and .u8 a0 23) != 18) = true := bne_iff_ne.mpr c3
      by_cases c4 : (Go.bits .and .u8 a0 23) = 16
      · rw [if_pos c4] at H
        have c4b0 : ((Go.bits .and .u8 a0 23) == 16) = true := beq_iff_eq.mpr c4
        have c4b1 : ((Go.bits .and .u8 a0 23) != 16) = false := bne_eq_false_iff_eq.mpr c4
        clear c4
        obtain rfl := Option.some.inj H
        go_enter Tryd.func13, Tryd.ntmps13
        go_wp2
        go_ret
        exact ⟨by first | rfl | (simp; done) | (simp [*]; done), by repeat (first | exact Drawn0.refl _ | apply Drawn0.step)⟩
      · rw [if_neg c4] at H
        have c4b0 : ((Go.bits .and .u8 a0 23) == 16) = false := beq_eq_false_iff_ne.mpr c4
        have c4b1 : ((Go.bits .and .u8 a0 23) != 16) = true := bne_iff_ne.mpr c4
        by_cases c5 : (Go.bits .and .u8 a0 23) = 17
        · rw [if_pos c5] at H
          have c5b0 : ((Go.bits .and .u8 a0 23) == 17) = true := beq_iff_eq.mpr c5
          have c5b1 : ((Go.bits .and .u8 a0 23) != 17) = false := bne_eq_false_iff_eq.mpr c5
          clear c5
          obtain rfl := Option.some.inj H
          go_enter Tryd.func13, Tryd.ntmps13
          go_wp2
          go_ret
          exact ⟨by first | rfl | (simp; done) | (simp [*]; done), by repeat (first | exact Drawn0.refl _ | apply Drawn0.step)⟩
        · rw [if_neg c5] at H
          have c5b0 : ((Go.bits .and .u8 a0 23) == 17) = false := beq_eq_false_iff_ne.mpr c5
          have c5b1 : ((Go.bits .and .u8 a0 23) != 17) = true := bne_iff_ne.mpr c5
          by_cases c6 : (Go.bits .and .u8 a0 23) = 4
          · rw [if_pos c6] at H
            have c6b0 : ((Go.bits .and .u8 a0 23) == 4) = true := beq_iff_eq.mpr c6
            have c6b1 : ((Go.bits .and .u8 a0 23) != 4) = false := bne_eq_false_iff_eq.mpr c6
            clear c6
            obtain rfl := Option.some.inj H
            go_enter Tryd.func13, Tryd.ntmps13
            go_wp2
            go_ret
            exact ⟨by first | rfl | (simp; done) | (simp [*]; done), by repeat (first | exact Drawn0.refl _ | apply Drawn0.step)⟩
          · rw [if_neg c6] at H
            have c6b0 : ((Go.bits .and .u8 a0 23) == 4) = false := beq_eq_false_iff_ne.mpr c6
            have c6b1 : ((Go.bits .and .u8 a0 23) != 4) = true := bne_iff_ne.mpr c6
            by_cases c7 : (Go.bits .and .u8 a0 23) = 20
            · rw [if_pos c7] at H
              have c7b0 : ((Go.bits .and .u8 a0 23) == 20) = true := beq_iff_eq.mpr c7
              have c7b1 : ((Go.bits .and .u8 a0 23) != 20) = false := bne_eq_false_iff_eq.mpr c7
              clear c7
              obtain rfl := Option.some.inj H
              go_enter Tryd.func13, Tryd.ntmps13
              go_wp2
              go_ret
              exact ⟨by first | rfl | (simp; done) | (simp [*]; done), by repeat (first | exact Drawn0.refl _ | apply Drawn0.step)⟩
            · rw [if_neg c7] at H
              have c7b0 : ((Go.bits .and .u8 a0 23) == 20) = false := beq_eq_false_iff_ne.mpr c7
              have c7b1 : ((Go.bits .and .u8 a0 23) != 20) = true := bne_iff_ne.mpr c7
              obtain rfl := Option.some.inj H
              go_enter Tryd.func13, Tryd.ntmps13
              go_wp2
              go_ret
              exact ⟨by first | rfl | (simp; done) | (simp [*]; done), by repeat (first | exact Drawn0.refl _ | apply Drawn0.step)⟩

/-! ### tcpstate_may: function 21 -/
def tcpstate_may.f (a0 : Int) : Option (Bool) := if a0 ≥ 0 then (some (decide (a0 < 10))) else (some false)
set_option maxHeartbeats 8000000 in
set_option maxRecDepth 100000 in
theorem tcpstate_may.calls (a0 : Int) (r : Bool) (w : World) (h : tcpstate_may.f a0 = some r) :
    Calls Tryd.prog 21 #[.int .i64 a0] w fun e w' => e = .returned (.bool r) ∧ Drawn0 w w' := by
  have H : (if a0 ≥ 0 then (some (decide (a0 < 10))) else (some false)) = some r := h
  clear h
  by_cases c2 : a0 ≥ 0
  · rw [if_pos c2] at H
    have c2b0 : decide (0 ≤ a0) = true := decide_eq_true c2
    clear c2
    obtain rfl := Option.some.inj H
    go_enter Tryd.func21, Tryd.ntmps21
    go_wp2
    go_ret
    exact ⟨by first | rfl | (simp; done) | (simp [*]; done), by repeat (first | exact Drawn0.refl _ | apply Drawn0.step)⟩
  · rw [if_neg c2] at H
    have c2b0 : decide (0 ≤ a0) = false := decide_eq_false c2
    clear c2
    obtain rfl := Option.some.inj H
    go_enter Tryd.func21, Tryd.ntmps21
    go_wp2
    go_ret
    exact ⟨by first | rfl | (simp; done) | (simp [*]; done), by repeat (first | exact Drawn0.refl _ | apply Drawn0.step)⟩

-- NOT PRINTED: function 10 (tcpstate_Next)

/-! ### tollref27_bit: function 23 -/
def tollref27_bit.l0 : Nat → Int → Int → Int → Option (Int)
  | 0, _, _, _ => none
  | k + 1, x1, x5, x6 => if x6 < x1 then (tollref27_bit.l0 k x1 (wrap64 (Int.tdiv x5 2)) (wrap64 (x6 + 1))) else (some (Int.tmod x5 2))
def tollref27_bit.f (k : Nat) (a0 : Int) (a1 : Int) : Option (Int) := tollref27_bit.l0 k a1 (wrap64 (a0)) 0
theorem tollref27_bit.mono_l : ∀ k, (∀ y0 y1 y2, LeO (tollref27_bit.l0 k y0 y1 y2) (tollref27_bit.l0 (k + 1) y0 y1 y2))
  | 0 => fun _ _ _ r h => by simp [tollref27_bit.l0] at h
  | k + 1 => by
    have ih0 := tollref27_bit.mono_l k
    · intro y0 y1 y2
      unfold tollref27_bit.l0
      repeat' first
      | (with_reducible exact ih0 _ _ _)
      | (with_reducible exact LeO.refl _)
      | (with_reducible exact LeO.none _)
      | (with_reducible refine LeO.ite ?_ ?_)
      | (with_reducible refine LeO.bind ?_ (fun _ => ?_))
      | exact ih0 _ _ _
      | exact LeO.none _
      | refine LeO.ite ?_ ?_
      | refine LeO.bind ?_ (fun _ => ?_)
theorem tollref27_bit.mono : ∀ a0 a1 k, LeO (tollref27_bit.f k a0 a1) (tollref27_bit.f (k + 1) a0 a1) := by
  intro a0 a1 k
  have ih0 := tollref27_bit.mono_l k
  unfold tollref27_bit.f
  repeat' first
      | (with_reducible exact ih0 _ _ _)
      | (with_reducible exact LeO.refl _)
      | (with_reducible exact LeO.none _)
      | (with_reducible refine LeO.ite ?_ ?_)
      | (with_reducible refine LeO.bind ?_ (fun _ => ?_))
      | exact ih0 _ _ _
      | exact LeO.none _
      | refine LeO.ite ?_ ?_
      | refine LeO.bind ?_ (fun _ => ?_)
set_option maxHeartbeats 8000000 in
set_option maxRecDepth 100000 in
theorem tollref27_bit.calls (k : Nat) (a0 : Int) (a1 : Int) (r : Int) (w : World) (h : tollref27_bit.f k a0 a1 = some r) :
    Calls Tryd.prog 23 #[.int .u8 a0, .int .i64 a1] w fun e w' => e = .returned (.int .i64 r) ∧ Drawn0 w w' := by
  have H : (tollref27_bit.l0 k a1 (wrap64 (a0)) 0) = some r := h
  clear h
  have H' := Aside0.mk H
  clear H
  go_enter Tryd.func23, Tryd.ntmps23
  go_wp2
  go_loopg [5, 6] k (fun kq v5 v6 w' => ∃ (x5_1 : Int) (x6_1 : Int), v5 = .int .i64 x5_1 ∧ v6 = .int .i64 x6_1 ∧ Aside0 (tollref27_bit.l0 kq a1 x5_1 x6_1 = some r) ∧ Aside0 (kq ≤ k) ∧ Drawn0 w w')
  case atStart => exact ⟨(wrap64 (a0)), (0), (by first | rfl | (simp; done) | (simp [*]; done)), (by first | rfl | (simp; done) | (simp [*]; done)), H', ⟨Nat.le_refl _⟩, by repeat (first | exact Drawn0.refl _ | apply Drawn0.step)⟩
  case round =>
    clear H'
    try clear c2
    try clear p2
    obtain ⟨x5_1, x6_1, rfl, rfl, HA, HK1, ⟨m1, rfl⟩⟩ := hrel
    cases gk with
    | zero => exact absurd HA.out (by simp [tollref27_bit.l0])
    | succ k1 =>
      have H := HA.out
      clear HA
      simp only [tollref27_bit.l0] at H
      by_cases c3 : x6_1 < a1
      · rw [if_pos c3] at H
        have c3b0 : decide (x6_1 < a1) = true := decide_eq_true c3
        clear c3
        have H' := Aside0.mk H
        clear H
        go_wp2
        go_roundg k1
        case measure => have := HK1.out; omega
        case rel => exact ⟨(wrap64 (Int.tdiv x5_1 2)), (wrap64 (x6_1 + 1)), (by first | rfl | (simp; done) | (simp [*]; done)), (by first | rfl | (simp; done) | (simp [*]; done)), H', ⟨by have := HK1.out; omega⟩, by repeat (first | exact Drawn0.refl _ | apply Drawn0.step)⟩
      · rw [if_neg c3] at H
        have c3b0 : decide (x6_1 < a1) = false := decide_eq_false c3
        clear c3
        obtain rfl := Option.some.inj H
        go_wp2
        go_ret
        exact ⟨by first | rfl | (simp; done) | (simp [*]; done), by repeat (first | exact Drawn0.refl _ | apply Drawn0.step)⟩

/-! ### tollref27_Kind: function 16 -/
def tollref27_Kind.j0 : Nat → Int → Int → Bool → Option (Int)
  | 0, _, _, _ => none
  | k + 1, x3, x6, x32 => if x32 = true then (some 4) else (if x3 = 0 then (if x6 = 1 then (some 3) else (some 0)) else (some 0))
def tollref27_Kind.f (k : Nat) (a0 : Int) : Option (Int) := (tollref27_bit.f k a0 0).bind fun t103 => ((tollref27_bit.f k a0 1).bind fun t104 => ((tollref27_bit.f k a0 2).bind fun t105 => ((tollref27_bit.f k a0 4).bind fun t106 => (if (wrap64 ((wrap64 (t103 + t104)) + t105)) > 1 then (some 0) else (if t105 = 1 then (some 5) else (if t104 = 1 then (some (wrap64 (1 + t106))) else (if t103 = 1 then (tollref27_Kind.j0 k t103 t106 (t106 == 1)) else (tollref27_Kind.j0 k t103 t106 false))))))))
theorem tollref27_Kind.mono_l : ∀ k, (∀ y0 y1 y2, LeO (tollref27_Kind.j0 k y0 y1 y2) (tollref27_Kind.j0 (k + 1) y0 y1 y2))
  | 0 => fun _ _ _ r h => by simp [tollref27_Kind.j0] at h
  | k + 1 => by
    have ih0 := tollref27_Kind.mono_l k
    · intro y0 y1 y2
      unfold tollref27_Kind.j0
      repeat' first
      | (with_reducible exact ih0 _ _ _)
      | (with_reducible exact tollref27_bit.mono _ _ _)
      | (with_reducible exact LeO.refl _)
      | (with_reducible exact LeO.none _)
      | (with_reducible refine LeO.ite ?_ ?_)
      | (with_reducible refine LeO.bind ?_ (fun _ => ?_))
      | exact ih0 _ _ _
      | exact tollref27_bit.mono _ _ _
      | exact LeO.none _
      | refine LeO.ite ?_ ?_
      | refine LeO.bind ?_ (fun _ => ?_)
theorem tollref27_Kind.mono : ∀ a0 k, LeO (tollref27_Kind.f k a0) (tollref27_Kind.f (k + 1) a0) := by
  intro a0 k
  have ih0 := tollref27_Kind.mono_l k
  unfold tollref27_Kind.f
  repeat' first
      | (with_reducible exact ih0 _ _ _)
      | (with_reducible exact tollref27_bit.mono _ _ _)
      | (with_reducible exact LeO.refl _)
      | (with_reducible exact LeO.none _)
      | (with_reducible refine LeO.ite ?_ ?_)
      | (with_reducible refine LeO.bind ?_ (fun _ => ?_))
      | exact ih0 _ _ _
      | exact tollref27_bit.mono _ _ _
      | exact LeO.none _
      | refine LeO.ite ?_ ?_
      | refine LeO.bind ?_ (fun _ => ?_)
set_option maxHeartbeats 8000000 in
set_option maxRecDepth 100000 in
theorem tollref27_Kind.calls (k : Nat) (a0 : Int) (r : Int) (w : World) (h : tollref27_Kind.f k a0 = some r) :
    Calls Tryd.prog 16 #[.int .u8 a0] w fun e w' => e = .returned (.int .i64 r) ∧ Drawn0 w w' := by
  have H : ((tollref27_bit.f k a0 0).bind fun t103 => ((tollref27_bit.f k a0 1).bind fun t104 => ((tollref27_bit.f k a0 2).bind fun t105 => ((tollref27_bit.f k a0 4).bind fun t106 => (if (wrap64 ((wrap64 (t103 + t104)) + t105)) > 1 then (some 0) else (if t105 = 1 then (some 5) else (if t104 = 1 then (some (wrap64 (1 + t106))) else (if t103 = 1 then (tollref27_Kind.j0 k t103 t106 (t106 == 1)) else (tollref27_Kind.j0 k t103 t106 false))))))))) = some r := h
  clear h
  replace H := Option.bind_eq_some_iff.mp H
  obtain ⟨t103, A20, H⟩ := H
  replace H : ((tollref27_bit.f k a0 1).bind fun t104 => ((tollref27_bit.f k a0 2).bind fun t105 => ((tollref27_bit.f k a0 4).bind fun t106 => (if (wrap64 ((wrap64 (t103 + t104)) + t105)) > 1 then (some 0) else (if t105 = 1 then (some 5) else (if t104 = 1 then (some (wrap64 (1 + t106))) else (if t103 = 1 then (tollref27_Kind.j0 k t103 t106 (t106 == 1)) else (tollref27_Kind.j0 k t103 t106 false)))))))) = some r := H
  have A2 := Aside0.mk A20
  clear A20
  replace H := Option.bind_eq_some_iff.mp H
  obtain ⟨t104, A30, H⟩ := H
  replace H : ((tollref27_bit.f k a0 2).bind fun t105 => ((tollref27_bit.f k a0 4).bind fun t106 => (if (wrap64 ((wrap64 (t103 + t104)) + t105)) > 1 then (some 0) else (if t105 = 1 then (some 5) else (if t104 = 1 then (some (wrap64 (1 + t106))) else (if t103 = 1 then (tollref27_Kind.j0 k t103 t106 (t106 == 1)) else (tollref27_Kind.j0 k t103 t106 false))))))) = some r := H
  have A3 := Aside0.mk A30
  clear A30
  replace H := Option.bind_eq_some_iff.mp H
  obtain ⟨t105, A40, H⟩ := H
  replace H : ((tollref27_bit.f k a0 4).bind fun t106 => (if (wrap64 ((wrap64 (t103 + t104)) + t105)) > 1 then (some 0) else (if t105 = 1 then (some 5) else (if t104 = 1 then (some (wrap64 (1 + t106))) else (if t103 = 1 then (tollref27_Kind.j0 k t103 t106 (t106 == 1)) else (tollref27_Kind.j0 k t103 t106 false)))))) = some r := H
  have A4 := Aside0.mk A40
  clear A40
  replace H := Option.bind_eq_some_iff.mp H
  obtain ⟨t106, A50, H⟩ := H
  replace H : (if (wrap64 ((wrap64 (t103 + t104)) + t105)) > 1 then (some 0) else (if t105 = 1 then (some 5) else (if t104 = 1 then (some (wrap64 (1 + t106))) else (if t103 = 1 then (tollref27_Kind.j0 k t103 t106 (t106 == 1)) else (tollref27_Kind.j0 k t103 t106 false))))) = some r := H
  have A5 := Aside0.mk A50
  clear A50
  by_cases c6 : (wrap64 ((wrap64 (t103 + t104)) + t105)) > 1
  · rw [if_pos c6] at H
    have c6b0 : decide (1 < (wrap64 ((wrap64 (t103 + t104)) + t105))) = true := decide_eq_true c6
    clear c6
    obtain rfl := Option.some.inj H
    go_enter Tryd.func16, Tryd.ntmps16
    go_wp2_with (first | ((with_reducible refine gate_callee (f := 23) rfl ?_); refine goesL_ (some 8) rfl rfl Tryd.func23 (by kernel_rfl) rfl #[.int .u8 a0, .int .i64 0] rfl (by (try simp only [List.map_toArray, List.map_cons, List.map_nil]); first | done | rfl | (simp only [List.length_drop, List.length_take]; rfl)) ?_; (with_reducible refine (tollref27_bit.calls k a0 0 t103 _ A2.out).mono ?_); rintro e w' ⟨rfl, ⟨nd, rfl⟩⟩; refine ⟨_, rfl, ?_⟩) | ((with_reducible refine gate_callee (f := 23) rfl ?_); refine goesL_ (some 10) rfl rfl Tryd.func23 (by kernel_rfl) rfl #[.int .u8 a0, .int .i64 1] rfl (by (try simp only [List.map_toArray, List.map_cons, List.map_nil]); first | done | rfl | (simp only [List.length_drop, List.length_take]; rfl)) ?_; (with_reducible refine (tollref27_bit.calls k a0 1 t104 _ A3.out).mono ?_); rintro e w' ⟨rfl, ⟨nd, rfl⟩⟩; refine ⟨_, rfl, ?_⟩) | ((with_reducible refine gate_callee (f := 23) rfl ?_); refine goesL_ (some 12) rfl rfl Tryd.func23 (by kernel_rfl) rfl #[.int .u8 a0, .int .i64 2] rfl (by (try simp only [List.map_toArray, List.map_cons, List.map_nil]); first | done | rfl | (simp only [List.length_drop, List.length_take]; rfl)) ?_; (with_reducible refine (tollref27_bit.calls k a0 2 t105 _ A4.out).mono ?_); rintro e w' ⟨rfl, ⟨nd, rfl⟩⟩; refine ⟨_, rfl, ?_⟩) | ((with_reducible refine gate_callee (f := 23) rfl ?_); refine goesL_ (some 14) rfl rfl Tryd.func23 (by kernel_rfl) rfl #[.int .u8 a0, .int .i64 4] rfl (by (try simp only [List.map_toArray, List.map_cons, List.map_nil]); first | done | rfl | (simp only [List.length_drop, List.length_take]; rfl)) ?_; (with_reducible refine (tollref27_bit.calls k a0 4 t106 _ A5.out).mono ?_); rintro e w' ⟨rfl, ⟨nd, rfl⟩⟩; refine ⟨_, rfl, ?_⟩))
    go_ret
    exact ⟨by first | rfl | (simp; done) | (simp [*]; done), by repeat (first | exact Drawn0.refl _ | apply Drawn0.step)⟩
  · rw [if_neg c6] at H
    have c6b0 : decide (1 < (wrap64 ((wrap64 (t103 + t104)) + t105))) = false := decide_eq_false c6
    clear c6
    by_cases c7 : t105 = 1
    · rw [if_pos c7] at H
      have c7b0 : (t105 == 1) = true := beq_iff_eq.mpr c7
      have c7b1 : (t105 != 1) = false := bne_eq_false_iff_eq.mpr c7
      clear c7
      obtain rfl := Option.some.inj H
      go_enter Tryd.func16, Tryd.ntmps16
      go_wp2_with (first | ((with_reducible refine gate_callee (f := 23) rfl ?_); refine goesL_ (some 8) rfl rfl Tryd.func23 (by kernel_rfl) rfl #[.int .u8 a0, .int .i64 0] rfl (by (try simp only [List.map_toArray, List.map_cons, List.map_nil]); first | done | rfl | (simp only [List.length_drop, List.length_take]; rfl)) ?_; (with_reducible refine (tollref27_bit.calls k a0 0 t103 _ A2.out).mono ?_); rintro e w' ⟨rfl, ⟨nd, rfl⟩⟩; refine ⟨_, rfl, ?_⟩) | ((with_reducible refine gate_callee (f := 23) rfl ?_); refine goesL_ (some 10) rfl rfl Tryd.func23 (by kernel_rfl) rfl #[.int .u8 a0, .int .i64 1] rfl (by (try simp only [List.map_toArray, List.map_cons, List.map_nil]); first | done | rfl | (simp only [List.length_drop, List.length_take]; rfl)) ?_; (with_reducible refine (tollref27_bit.calls k a0 1 t104 _ A3.out).mono ?_); rintro e w' ⟨rfl, ⟨nd, rfl⟩⟩; refine ⟨_, rfl, ?_⟩) | ((with_reducible refine gate_callee (f := 23) rfl ?_); refine goesL_ (some 12) rfl rfl Tryd.func23 (by kernel_rfl) rfl #[.int .u8 a0, .int .i64 2] rfl (by (try simp only [List.map_toArray, List.map_cons, List.map_nil]); first | done | rfl | (simp only [List.length_drop, List.length_take]; rfl)) ?_; (with_reducible refine (tollref27_bit.calls k a0 2 t105 _ A4.out).mono ?_); rintro e w' ⟨rfl, ⟨nd, rfl⟩⟩; refine ⟨_, rfl, ?_⟩) | ((with_reducible refine gate_callee (f := 23) rfl ?_); refine goesL_ (some 14) rfl rfl Tryd.func23 (by kernel_rfl) rfl #[.int .u8 a0, .int .i64 4] rfl (by (try simp only [List.map_toArray, List.map_cons, List.map_nil]); first | done | rfl | (simp only [List.length_drop, List.length_take]; rfl)) ?_; (with_reducible refine (tollref27_bit.calls k a0 4 t106 _ A5.out).mono ?_); rintro e w' ⟨rfl, ⟨nd, rfl⟩⟩; refine ⟨_, rfl, ?_⟩))
      go_ret
      exact ⟨by first | rfl | (simp; done) | (simp [*]; done), by repeat (first | exact Drawn0.refl _ | apply Drawn0.step)⟩
    · rw [if_neg c7] at H
      have c7b0 : (t105 == 1) = false := beq_eq_false_iff_ne.mpr c7
      have c7b1 : (t105 != 1) = true := bne_iff_ne.mpr c7
      by_cases c8 : t104 = 1
      · rw [if_pos c8] at H
        have c8b0 : (t104 == 1) = true := beq_iff_eq.mpr c8
        have c8b1 : (t104 != 1) = false := bne_eq_false_iff_eq.mpr c8
        clear c8
        obtain rfl := Option.some.inj H
        go_enter Tryd.func16, Tryd.ntmps16
        go_wp2_with (first | ((with_reducible refine gate_callee (f := 23) rfl ?_); refine goesL_ (some 8) rfl rfl Tryd.func23 (by kernel_rfl) rfl #[.int .u8 a0, .int .i64 0] rfl (by (try simp only [List.map_toArray, List.map_cons, List.map_nil]); first | done | rfl | (simp only [List.length_drop, List.length_take]; rfl)) ?_; (with_reducible refine (tollref27_bit.calls k a0 0 t103 _ A2.out).mono ?_); rintro e w' ⟨rfl, ⟨nd, rfl⟩⟩; refine ⟨_, rfl, ?_⟩) | ((with_reducible refine gate_callee (f := 23) rfl ?_); refine goesL_ (some 10) rfl rfl Tryd.func23 (by kernel_rfl) rfl #[.int .u8 a0, .int .i64 1] rfl (by (try simp only [List.map_toArray, List.map_cons, List.map_nil]); first | done | rfl | (simp only [List.length_drop, List.length_take]; rfl)) ?_; (with_reducible refine (tollref27_bit.calls k a0 1 t104 _ A3.out).mono ?_); rintro e w' ⟨rfl, ⟨nd, rfl⟩⟩; refine ⟨_, rfl, ?_⟩) | ((with_reducible refine gate_callee (f := 23) rfl ?_); refine goesL_ (some 12) rfl rfl Tryd.func23 (by kernel_rfl) rfl #[.int .u8 a0, .int .i64 2] rfl (by (try simp only [List.map_toArray, List.map_cons, List.map_nil]); first | done | rfl | (simp only [List.length_drop, List.length_take]; rfl)) ?_; (with_reducible refine (tollref27_bit.calls k a0 2 t105 _ A4.out).mono ?_); rintro e w' ⟨rfl, ⟨nd, rfl⟩⟩; refine ⟨_, rfl, ?_⟩) | ((with_reducible refine gate_callee (f := 23) rfl ?_); refine goesL_ (some 14) rfl rfl Tryd.func23 (by kernel_rfl) rfl #[.int .u8 a0, .int .i64 4] rfl (by (try simp only [List.map_toArray, List.map_cons, List.map_nil]); first | done | rfl | (simp only [List.length_drop, List.length_take]; rfl)) ?_; (with_reducible refine (tollref27_bit.calls k a0 4 t106 _ A5.out).mono ?_); rintro e w' ⟨rfl, ⟨nd, rfl⟩⟩; refine ⟨_, rfl, ?_⟩))
        go_ret
        exact ⟨by first | rfl | (simp; done) | (simp [*]; done), by repeat (first | exact Drawn0.refl _ | apply Drawn0.step)⟩
      · rw [if_neg c8] at H
        have c8b0 : (t104 == 1) = false := beq_eq_false_iff_ne.mpr c8
        have c8b1 : (t104 != 1) = true := bne_iff_ne.mpr c8
        have HC9 := Aside0.mk H
        clear H
        go_enter Tryd.func16, Tryd.ntmps16
        go_upto_region 11 with (first | ((with_reducible refine gate_callee (f := 23) rfl ?_); refine goesL_ (some 8) rfl rfl Tryd.func23 (by kernel_rfl) rfl #[.int .u8 a0, .int .i64 0] rfl (by (try simp only [List.map_toArray, List.map_cons, List.map_nil]); first | done | rfl | (simp only [List.length_drop, List.length_take]; rfl)) ?_; (with_reducible refine (tollref27_bit.calls k a0 0 t103 _ A2.out).mono ?_); rintro e w' ⟨rfl, ⟨nd, rfl⟩⟩; refine ⟨_, rfl, ?_⟩) | ((with_reducible refine gate_callee (f := 23) rfl ?_); refine goesL_ (some 10) rfl rfl Tryd.func23 (by kernel_rfl) rfl #[.int .u8 a0, .int .i64 1] rfl (by (try simp only [List.map_toArray, List.map_cons, List.map_nil]); first | done | rfl | (simp only [List.length_drop, List.length_take]; rfl)) ?_; (with_reducible refine (tollref27_bit.calls k a0 1 t104 _ A3.out).mono ?_); rintro e w' ⟨rfl, ⟨nd, rfl⟩⟩; refine ⟨_, rfl, ?_⟩) | ((with_reducible refine gate_callee (f := 23) rfl ?_); refine goesL_ (some 12) rfl rfl Tryd.func23 (by kernel_rfl) rfl #[.int .u8 a0, .int .i64 2] rfl (by (try simp only [List.map_toArray, List.map_cons, List.map_nil]); first | done | rfl | (simp only [List.length_drop, List.length_take]; rfl)) ?_; (with_reducible refine (tollref27_bit.calls k a0 2 t105 _ A4.out).mono ?_); rintro e w' ⟨rfl, ⟨nd, rfl⟩⟩; refine ⟨_, rfl, ?_⟩) | ((with_reducible refine gate_callee (f := 23) rfl ?_); refine goesL_ (some 14) rfl rfl Tryd.func23 (by kernel_rfl) rfl #[.int .u8 a0, .int .i64 4] rfl (by (try simp only [List.map_toArray, List.map_cons, List.map_nil]); first | done | rfl | (simp only [List.length_drop, List.length_take]; rfl)) ?_; (with_reducible refine (tollref27_bit.calls k a0 4 t106 _ A5.out).mono ?_); rintro e w' ⟨rfl, ⟨nd, rfl⟩⟩; refine ⟨_, rfl, ?_⟩))
        (try simp only [Act.put, List.setIfInBounds_toArray, List.set_cons_zero, List.set_cons_succ])
        go_cut [32] (fun v32 wc => ∃ (kq : Nat) (x32_8 : Bool), v32 = .bool x32_8 ∧ Aside0 (tollref27_Kind.j0 kq t103 t106 x32_8 = some r) ∧ Aside0 (kq ≤ k) ∧ Drawn0 w wc)
        case first =>
          have H := HC9.out
          clear HC9
          by_cases c10 : t103 = 1
          · rw [if_pos c10] at H
            have c10b0 : (t103 == 1) = true := beq_iff_eq.mpr c10
            have c10b1 : (t103 != 1) = false := bne_eq_false_iff_eq.mpr c10
            clear c10
            (first | rw [c10b0] | (simp only [i64_w, i32_w]; rw [c10b0]) | skip)
            have H' := Aside0.mk H
            clear H
            go_wp2
            go_meet
            case rel => exact ⟨_, ((t106 == 1)), (by first | rfl | (simp; done) | (simp [*]; done)), H', ⟨by first | omega | exact Nat.le_refl _⟩, by repeat (first | exact Drawn0.refl _ | apply Drawn0.step)⟩
          · rw [if_neg c10] at H
            have c10b0 : (t103 == 1) = false := beq_eq_false_iff_ne.mpr c10
            have c10b1 : (t103 != 1) = true := bne_iff_ne.mpr c10
            (first | rw [c10b0] | (simp only [i64_w, i32_w]; rw [c10b0]) | skip)
            have H' := Aside0.mk H
            clear H
            go_wp2
            go_meet
            case rel => exact ⟨_, (false), (by first | rfl | (simp; done) | (simp [*]; done)), H', ⟨by first | omega | exact Nat.le_refl _⟩, by repeat (first | exact Drawn0.refl _ | apply Drawn0.step)⟩
        case rest =>
          clear HC9
          try clear c1
          try clear c2
          try clear p2
          try clear c6
          try clear c6b0
          try clear p6
          try clear c7
          try clear c7b0
          try clear c7b1
          try clear c8
          try clear c8b0
          try clear c8b1
          try clear c10
          try clear c10b0
          try clear c10b1
          obtain ⟨kq, x32_8, rfl, HA, HJ8, ⟨mc8, rfl⟩⟩ := hcut
          cases kq with
          | zero => exact absurd HA.out (by simp [tollref27_Kind.j0])
          | succ kj8 =>
            have H := HA.out
            clear HA
            simp only [tollref27_Kind.j0] at H
            by_cases c11 : x32_8 = true
            · subst c11
              have H1 : (some 4) = some r := by rw [if_pos rfl] at H; exact H
              clear H
              have H := H1
              clear H1
              obtain rfl := Option.some.inj H
              go_wp2
              go_ret
              exact ⟨by first | rfl | (simp; done) | (simp [*]; done), by repeat (first | exact Drawn0.refl _ | apply Drawn0.step)⟩
            · replace c11 := Bool.eq_false_iff.mpr c11
              subst c11
              have H1 : (if t103 = 0 then (if t106 = 1 then (some 3) else (some 0)) else (some 0)) = some r := by rw [if_neg (show ¬ (false = true) by decide)] at H; exact H
              clear H
              have H := H1
              clear H1
              by_cases c12 : t103 = 0
              · rw [if_pos c12] at H
                have c12b0 : (t103 == 0) = true := beq_iff_eq.mpr c12
                have c12b1 : (t103 != 0) = false := bne_eq_false_iff_eq.mpr c12
                clear c12
                by_cases c13 : t106 = 1
                · rw [if_pos c13] at H
                  have c13b0 : (t106 == 1) = true := beq_iff_eq.mpr c13
                  have c13b1 : (t106 != 1) = false := bne_eq_false_iff_eq.mpr c13
                  clear c13
                  obtain rfl := Option.some.inj H
                  go_wp2
                  go_ret
                  exact ⟨by first | rfl | (simp; done) | (simp [*]; done), by repeat (first | exact Drawn0.refl _ | apply Drawn0.step)⟩
                · rw [if_neg c13] at H
                  have c13b0 : (t106 == 1) = false := beq_eq_false_iff_ne.mpr c13
                  have c13b1 : (t106 != 1) = true := bne_iff_ne.mpr c13
                  obtain rfl := Option.some.inj H
                  go_wp2
                  go_ret
                  exact ⟨by first | rfl | (simp; done) | (simp [*]; done), by repeat (first | exact Drawn0.refl _ | apply Drawn0.step)⟩
              · rw [if_neg c12] at H
                have c12b0 : (t103 == 0) = false := beq_eq_false_iff_ne.mpr c12
                have c12b1 : (t103 != 0) = true := bne_iff_ne.mpr c12
                obtain rfl := Option.some.inj H
                go_wp2
                go_ret
                exact ⟨by first | rfl | (simp; done) | (simp [*]; done), by repeat (first | exact Drawn0.refl _ | apply Drawn0.step)⟩

/-! ### tollref27_rows: function 22 -/
def tollref27_rows.f  : Option (List ByteArray) := some (([(⟨#[83, 46, 46, 46, 46, 46, 46, 46, 46, 46]⟩ : ByteArray), (⟨#[83, 46, 46, 46, 71, 67, 65, 46, 46, 71]⟩ : ByteArray), (⟨#[67, 65, 46, 46, 71, 67, 65, 46, 46, 71]⟩ : ByteArray), (⟨#[65, 65, 79, 72, 71, 46, 65, 65, 73, 71]⟩ : ByteArray), (⟨#[46, 79, 79, 72, 71, 46, 79, 79, 73, 71]⟩ : ByteArray), (⟨#[46, 46, 72, 72, 71, 46, 46, 72, 66, 71]⟩ : ByteArray), (⟨#[46, 46, 73, 66, 71, 46, 46, 73, 73, 71]⟩ : ByteArray), (⟨#[46, 46, 76, 66, 71, 46, 46, 76, 66, 71]⟩ : ByteArray), (⟨#[83, 46, 76, 76, 71, 46, 46, 76, 76, 71]⟩ : ByteArray), (⟨#[83, 46, 46, 46, 71, 46, 46, 46, 46, 71]⟩ : ByteArray)] : List ByteArray))
set_option maxHeartbeats 8000000 in
set_option maxRecDepth 100000 in
theorem tollref27_rows.calls  (r : List ByteArray) (w : World) (h : tollref27_rows.f  = some r) :
    Calls Tryd.prog 22 #[] w fun e w' => ∃ v0_ : Value, e = .returned (v0_) ∧ Kd.R Kd.string 9 w' w.heap.size (fun _ => True) v0_ r ∧ Below w.heap.size w w' := by
  have HB := Aside0.mk (Below.refl w.heap.size w)
  have H : (some (([(⟨#[83, 46, 46, 46, 46, 46, 46, 46, 46, 46]⟩ : ByteArray), (⟨#[83, 46, 46, 46, 71, 67, 65, 46, 46, 71]⟩ : ByteArray), (⟨#[67, 65, 46, 46, 71, 67, 65, 46, 46, 71]⟩ : ByteArray), (⟨#[65, 65, 79, 72, 71, 46, 65, 65, 73, 71]⟩ : ByteArray), (⟨#[46, 79, 79, 72, 71, 46, 79, 79, 73, 71]⟩ : ByteArray), (⟨#[46, 46, 72, 72, 71, 46, 46, 72, 66, 71]⟩ : ByteArray), (⟨#[46, 46, 73, 66, 71, 46, 46, 73, 73, 71]⟩ : ByteArray), (⟨#[46, 46, 76, 66, 71, 46, 46, 76, 66, 71]⟩ : ByteArray), (⟨#[83, 46, 76, 76, 71, 46, 46, 76, 76, 71]⟩ : ByteArray), (⟨#[83, 46, 46, 46, 71, 46, 46, 46, 46, 71]⟩ : ByteArray)] : List ByteArray))) = some r := h
  clear h
  obtain ⟨y107, hy107⟩ : ∃ y_ : List ByteArray, y_ = (([(⟨#[83, 46, 46, 46, 46, 46, 46, 46, 46, 46]⟩ : ByteArray), (⟨#[83, 46, 46, 46, 71, 67, 65, 46, 46, 71]⟩ : ByteArray), (⟨#[67, 65, 46, 46, 71, 67, 65, 46, 46, 71]⟩ : ByteArray), (⟨#[65, 65, 79, 72, 71, 46, 65, 65, 73, 71]⟩ : ByteArray), (⟨#[46, 79, 79, 72, 71, 46, 79, 79, 73, 71]⟩ : ByteArray), (⟨#[46, 46, 72, 72, 71, 46, 46, 72, 66, 71]⟩ : ByteArray), (⟨#[46, 46, 73, 66, 71, 46, 46, 73, 73, 71]⟩ : ByteArray), (⟨#[46, 46, 76, 66, 71, 46, 46, 76, 66, 71]⟩ : ByteArray), (⟨#[83, 46, 76, 76, 71, 46, 46, 76, 76, 71]⟩ : ByteArray), (⟨#[83, 46, 46, 46, 71, 46, 46, 46, 46, 71]⟩ : ByteArray)] : List ByteArray)) := ⟨_, rfl⟩
  replace H : (some y107) = some r := by first | (rw [hy107]; with_reducible exact H) | (have H2_ := (Option.bind_some _ _).symm.trans H; rw [hy107]; with_reducible exact H2_) | (have H2_ := (Option.bind_some _ _).symm.trans H; with_reducible exact H2_) | with_reducible exact H | (rw [hy107]; exact H) | exact H
  have Ny107 := Aside0.mk hy107
  clear hy107
  obtain rfl := Option.some.inj H
  go_enter Tryd.func22, Tryd.ntmps22
  go_wp2_with (first | ((with_reducible refine gate_dst (N := 1) rfl ?_); refine Kd.R_lit Kd.string _ 9 ?hg (N := 1) ?hd (xs := ([(⟨#[83, 46, 46, 46, 46, 46, 46, 46, 46, 46]⟩ : ByteArray), (⟨#[83, 46, 46, 46, 71, 67, 65, 46, 46, 71]⟩ : ByteArray), (⟨#[67, 65, 46, 46, 71, 67, 65, 46, 46, 71]⟩ : ByteArray), (⟨#[65, 65, 79, 72, 71, 46, 65, 65, 73, 71]⟩ : ByteArray), (⟨#[46, 79, 79, 72, 71, 46, 79, 79, 73, 71]⟩ : ByteArray), (⟨#[46, 46, 72, 72, 71, 46, 46, 72, 66, 71]⟩ : ByteArray), (⟨#[46, 46, 73, 66, 71, 46, 46, 73, 73, 71]⟩ : ByteArray), (⟨#[46, 46, 76, 66, 71, 46, 46, 76, 66, 71]⟩ : ByteArray), (⟨#[83, 46, 76, 76, 71, 46, 46, 76, 76, 71]⟩ : ByteArray), (⟨#[83, 46, 46, 46, 71, 46, 46, 46, 46, 71]⟩ : ByteArray)] : List ByteArray)) (inner := [.string (⟨#[83, 46, 46, 46, 46, 46, 46, 46, 46, 46]⟩ : ByteArray), .string (⟨#[83, 46, 46, 46, 71, 67, 65, 46, 46, 71]⟩ : ByteArray), .string (⟨#[67, 65, 46, 46, 71, 67, 65, 46, 46, 71]⟩ : ByteArray), .string (⟨#[65, 65, 79, 72, 71, 46, 65, 65, 73, 71]⟩ : ByteArray), .string (⟨#[46, 79, 79, 72, 71, 46, 79, 79, 73, 71]⟩ : ByteArray), .string (⟨#[46, 46, 72, 72, 71, 46, 46, 72, 66, 71]⟩ : ByteArray), .string (⟨#[46, 46, 73, 66, 71, 46, 46, 73, 73, 71]⟩ : ByteArray), .string (⟨#[46, 46, 76, 66, 71, 46, 46, 76, 66, 71]⟩ : ByteArray), .string (⟨#[83, 46, 76, 76, 71, 46, 46, 76, 76, 71]⟩ : ByteArray), .string (⟨#[83, 46, 46, 46, 71, 46, 46, 46, 46, 71]⟩ : ByteArray)]) (ok := fun _ => True) (okp := fun _ => True) ?hr ?hp (fun _ hk => hk) trivial (Below.refl _ _) (Nat.le_refl _) (by simp) ?_; (case hd => rfl); (case hg => rfl); (case hr => first | (go_simp; done) | (go_simp; rfl)); (case hp => exact (Reps.one (show Kd.M Kd.string _ _ _ (⟨#[83, 46, 46, 46, 46, 46, 46, 46, 46, 46]⟩ : ByteArray) [.string (⟨#[83, 46, 46, 46, 46, 46, 46, 46, 46, 46]⟩ : ByteArray)] from rfl) (Reps.one (show Kd.M Kd.string _ _ _ (⟨#[83, 46, 46, 46, 71, 67, 65, 46, 46, 71]⟩ : ByteArray) [.string (⟨#[83, 46, 46, 46, 71, 67, 65, 46, 46, 71]⟩ : ByteArray)] from rfl) (Reps.one (show Kd.M Kd.string _ _ _ (⟨#[67, 65, 46, 46, 71, 67, 65, 46, 46, 71]⟩ : ByteArray) [.string (⟨#[67, 65, 46, 46, 71, 67, 65, 46, 46, 71]⟩ : ByteArray)] from rfl) (Reps.one (show Kd.M Kd.string _ _ _ (⟨#[65, 65, 79, 72, 71, 46, 65, 65, 73, 71]⟩ : ByteArray) [.string (⟨#[65, 65, 79, 72, 71, 46, 65, 65, 73, 71]⟩ : ByteArray)] from rfl) (Reps.one (show Kd.M Kd.string _ _ _ (⟨#[46, 79, 79, 72, 71, 46, 79, 79, 73, 71]⟩ : ByteArray) [.string (⟨#[46, 79, 79, 72, 71, 46, 79, 79, 73, 71]⟩ : ByteArray)] from rfl) (Reps.one (show Kd.M Kd.string _ _ _ (⟨#[46, 46, 72, 72, 71, 46, 46, 72, 66, 71]⟩ : ByteArray) [.string (⟨#[46, 46, 72, 72, 71, 46, 46, 72, 66, 71]⟩ : ByteArray)] from rfl) (Reps.one (show Kd.M Kd.string _ _ _ (⟨#[46, 46, 73, 66, 71, 46, 46, 73, 73, 71]⟩ : ByteArray) [.string (⟨#[46, 46, 73, 66, 71, 46, 46, 73, 73, 71]⟩ : ByteArray)] from rfl) (Reps.one (show Kd.M Kd.string _ _ _ (⟨#[46, 46, 76, 66, 71, 46, 46, 76, 66, 71]⟩ : ByteArray) [.string (⟨#[46, 46, 76, 66, 71, 46, 46, 76, 66, 71]⟩ : ByteArray)] from rfl) (Reps.one (show Kd.M Kd.string _ _ _ (⟨#[83, 46, 76, 76, 71, 46, 46, 76, 76, 71]⟩ : ByteArray) [.string (⟨#[83, 46, 76, 76, 71, 46, 46, 76, 76, 71]⟩ : ByteArray)] from rfl) (Reps.one (show Kd.M Kd.string _ _ _ (⟨#[83, 46, 46, 46, 71, 46, 46, 46, 46, 71]⟩ : ByteArray) [.string (⟨#[83, 46, 46, 46, 71, 46, 46, 46, 46, 71]⟩ : ByteArray)] from rfl) (Reps.none _ _)))))))))))); intro v108 w1 ho2 hb hg_ hnew_; clear hg_ hnew_; (first | rw [← Ny107.out] at ho2 | (simp only [Int.reduceToNat] at ho2; rw [← Ny107.out] at ho2)); have n0_ := Aside0.mk (Kd.R_lower ho2 (below_size (by repeat (first | (with_reducible first | exact HB.out | apply below_alloc | apply pw_below_drewN | apply below_drew1) | exact HB.out)))); have n1_ := Aside0.mk (below_step (by repeat (first | (with_reducible first | exact HB.out | apply below_alloc | apply pw_below_drewN | apply below_drew1) | exact HB.out)) hb); clear HB; have HO109 := n0_; have HB := n1_; clear n0_ n1_; clear hb ho2))
  go_ret
  exact ⟨_, by first | rfl | (simp [errW_none, errW_some] <;> rfl) | (simp [*, errW_none, errW_some] <;> rfl), by (with_reducible repeat (first | apply Kd.R_alloc | apply Kd.R_drewN | apply Kd.R_drew)); exact HO109.out, by repeat (first | (with_reducible first | exact HB.out | apply below_alloc | apply pw_below_drewN | apply below_drew1) | exact HB.out)⟩

/-! ### tollref27_Next: function 11 -/
mutual
def tollref27_Next.j0 : Nat → Int → Bool → Int → Bool → Option (Int × Bool)
  | 0, _, _, _, _ => none
  | k + 1, x0, x1, x8, x24 => if x24 = true then (some (x0, false)) else (if x1 = true then (tollref27_Next.j1 k x0 (wrap64 ((wrap64 (x8 - 1)) + 5))) else (tollref27_Next.j1 k x0 (wrap64 (x8 - 1))))
def tollref27_Next.j1 : Nat → Int → Int → Option (Int × Bool)
  | 0, _, _ => none
  | k + 1, x0, x9 => (tollref27_rows.f).bind fun t111 => (if 0 ≤ x0 then (if x0 < (t111.length : Int) then (if 0 ≤ x9 then (if x9 < ((rdOf ByteArray.empty t111 x0).size : Int) then (tollref27_Next.l0 k x0 (bt (rdOf ByteArray.empty t111 x0) x9) (⟨#[78, 83, 67, 65, 79, 72, 73, 66, 76, 71]⟩ : ByteArray) 0) else (none)) else (none)) else (none)) else (none))
def tollref27_Next.l0 : Nat → Int → Int → ByteArray → Int → Option (Int × Bool)
  | 0, _, _, _, _ => none
  | k + 1, x0, x10, x11, x12 => if x12 < 10 then (if 0 ≤ x12 then (if x12 < (x11.size : Int) then (if (bt x11 x12) = x10 then (some (x12, true)) else (tollref27_Next.l0 k x0 x10 x11 (wrap64 (x12 + 1)))) else (none)) else (none)) else (some (x0, false))
end
def tollref27_Next.f (k : Nat) (a0 : Int) (a1 : Bool) (a2 : Int) : Option (Int × Bool) := (tollref27_Kind.f k a2).bind fun t110 => (if a0 < 0 then (tollref27_Next.j0 k a0 a1 t110 true) else (if a0 > 9 then (tollref27_Next.j0 k a0 a1 t110 true) else (tollref27_Next.j0 k a0 a1 t110 (t110 == 0))))
theorem tollref27_Next.mono_l : ∀ k, (∀ y0 y1 y2 y3, LeO (tollref27_Next.j0 k y0 y1 y2 y3) (tollref27_Next.j0 (k + 1) y0 y1 y2 y3)) ∧ (∀ y0 y1, LeO (tollref27_Next.j1 k y0 y1) (tollref27_Next.j1 (k + 1) y0 y1)) ∧ (∀ y0 y1 y2 y3, LeO (tollref27_Next.l0 k y0 y1 y2 y3) (tollref27_Next.l0 (k + 1) y0 y1 y2 y3))
  | 0 => ⟨fun _ _ _ _ r h => by simp [tollref27_Next.j0] at h, fun _ _ r h => by simp [tollref27_Next.j1] at h, fun _ _ _ _ r h => by simp [tollref27_Next.l0] at h⟩
  | k + 1 => by
    obtain ⟨ih0, ih1, ih2⟩ := tollref27_Next.mono_l k
    refine ⟨?_, ?_, ?_⟩
    · intro y0 y1 y2 y3
      unfold tollref27_Next.j0
      repeat' first
      | (with_reducible exact ih0 _ _ _ _)
      | (with_reducible exact ih1 _ _)
      | (with_reducible exact ih2 _ _ _ _)
      | (with_reducible exact tollref27_Kind.mono _ _)
      | (with_reducible exact LeO.refl _)
      | (with_reducible exact LeO.none _)
      | (with_reducible refine LeO.ite ?_ ?_)
      | (with_reducible refine LeO.bind ?_ (fun _ => ?_))
      | exact ih0 _ _ _ _
      | exact ih1 _ _
      | exact ih2 _ _ _ _
      | exact tollref27_Kind.mono _ _
      | exact LeO.none _
      | refine LeO.ite ?_ ?_
      | refine LeO.bind ?_ (fun _ => ?_)
    · intro y0 y1
      unfold tollref27_Next.j1
      repeat' first
      | (with_reducible exact ih0 _ _ _ _)
      | (with_reducible exact ih1 _ _)
      | (with_reducible exact ih2 _ _ _ _)
      | (with_reducible exact tollref27_Kind.mono _ _)
      | (with_reducible exact LeO.refl _)
      | (with_reducible exact LeO.none _)
      | (with_reducible refine LeO.ite ?_ ?_)
      | (with_reducible refine LeO.bind ?_ (fun _ => ?_))
      | exact ih0 _ _ _ _
      | exact ih1 _ _
      | exact ih2 _ _ _ _
      | exact tollref27_Kind.mono _ _
      | exact LeO.none _
      | refine LeO.ite ?_ ?_
      | refine LeO.bind ?_ (fun _ => ?_)
    · intro y0 y1 y2 y3
      unfold tollref27_Next.l0
      repeat' first
      | (with_reducible exact ih0 _ _ _ _)
      | (with_reducible exact ih1 _ _)
      | (with_reducible exact ih2 _ _ _ _)
      | (with_reducible exact tollref27_Kind.mono _ _)
      | (with_reducible exact LeO.refl _)
      | (with_reducible exact LeO.none _)
      | (with_reducible refine LeO.ite ?_ ?_)
      | (with_reducible refine LeO.bind ?_ (fun _ => ?_))
      | exact ih0 _ _ _ _
      | exact ih1 _ _
      | exact ih2 _ _ _ _
      | exact tollref27_Kind.mono _ _
      | exact LeO.none _
      | refine LeO.ite ?_ ?_
      | refine LeO.bind ?_ (fun _ => ?_)
theorem tollref27_Next.mono : ∀ a0 a1 a2 k, LeO (tollref27_Next.f k a0 a1 a2) (tollref27_Next.f (k + 1) a0 a1 a2) := by
  intro a0 a1 a2 k
  obtain ⟨ih0, ih1, ih2⟩ := tollref27_Next.mono_l k
  unfold tollref27_Next.f
  repeat' first
      | (with_reducible exact ih0 _ _ _ _)
      | (with_reducible exact ih1 _ _)
      | (with_reducible exact ih2 _ _ _ _)
      | (with_reducible exact tollref27_Kind.mono _ _)
      | (with_reducible exact LeO.refl _)
      | (with_reducible exact LeO.none _)
      | (with_reducible refine LeO.ite ?_ ?_)
      | (with_reducible refine LeO.bind ?_ (fun _ => ?_))
      | exact ih0 _ _ _ _
      | exact ih1 _ _
      | exact ih2 _ _ _ _
      | exact tollref27_Kind.mono _ _
      | exact LeO.none _
      | refine LeO.ite ?_ ?_
      | refine LeO.bind ?_ (fun _ => ?_)
set_option maxHeartbeats 8000000 in
set_option maxRecDepth 100000 in
theorem tollref27_Next.calls (k : Nat) (a0 : Int) (a1 : Bool) (a2 : Int) (r1 : Int) (r2 : Bool) (w : World) (h : tollref27_Next.f k a0 a1 a2 = some (r1, r2)) :
    Calls Tryd.prog 11 #[.int .i64 a0, .bool a1, .int .u8 a2] w fun e w' => e = .returned (.tuple #[.int .i64 r1, .bool r2]) ∧ Below w.heap.size w w' := by
  have HB := Aside0.mk (Below.refl w.heap.size w)
  have H : ((tollref27_Kind.f k a2).bind fun t110 => (if a0 < 0 then (tollref27_Next.j0 k a0 a1 t110 true) else (if a0 > 9 then (tollref27_Next.j0 k a0 a1 t110 true) else (tollref27_Next.j0 k a0 a1 t110 (t110 == 0))))) = some (r1, r2) := h
  clear h
  replace H := Option.bind_eq_some_iff.mp H
  obtain ⟨t110, A40, H⟩ := H
  replace H : (if a0 < 0 then (tollref27_Next.j0 k a0 a1 t110 true) else (if a0 > 9 then (tollref27_Next.j0 k a0 a1 t110 true) else (tollref27_Next.j0 k a0 a1 t110 (t110 == 0)))) = some (r1, r2) := H
  have A4 := Aside0.mk A40
  clear A40
  have HC5 := Aside0.mk H
  clear H
  go_enter Tryd.func11, Tryd.ntmps11
  go_upto_region 2 with (first | ((with_reducible refine gate_callee (f := 16) rfl ?_); refine goesL_ (some 14) rfl rfl Tryd.func16 (by kernel_rfl) rfl #[.int .u8 a2] rfl (by (try simp only [List.map_toArray, List.map_cons, List.map_nil]); first | done | rfl | (simp only [List.length_drop, List.length_take]; rfl)) ?_; (with_reducible refine (tollref27_Kind.calls k a2 t110 _ A4.out).mono ?_); rintro e w' ⟨rfl, ⟨nd, rfl⟩⟩; refine ⟨_, rfl, ?_⟩))
  (try simp only [Act.put, List.setIfInBounds_toArray, List.set_cons_zero, List.set_cons_succ])
  go_cut [24] (fun v24 wc => ∃ (kq : Nat) (x24_4 : Bool), v24 = .bool x24_4 ∧ Aside0 (tollref27_Next.j0 kq a0 a1 t110 x24_4 = some (r1, r2)) ∧ Aside0 (kq ≤ k) ∧ Aside0 (Below w.heap.size w wc))
  case first =>
    have H := HC5.out
    clear HC5
    by_cases c6 : a0 < 0
    · rw [if_pos c6] at H
      have c6b0 : decide (a0 < 0) = true := decide_eq_true c6
      clear c6
      (first | rw [c6b0] | (simp only [i64_w, i32_w]; rw [c6b0]) | skip)
      have H' := Aside0.mk H
      clear H
      go_wp2
      go_meet
      case rel => exact ⟨_, (true), (by first | rfl | (simp; done) | (simp [*]; done)), H', ⟨by first | omega | exact Nat.le_refl _⟩, ⟨by repeat (first | (with_reducible first | exact HB.out | apply below_alloc | apply pw_below_drewN | apply below_drew1) | exact HB.out)⟩⟩
    · rw [if_neg c6] at H
      have c6b0 : decide (a0 < 0) = false := decide_eq_false c6
      clear c6
      (first | rw [c6b0] | (simp only [i64_w, i32_w]; rw [c6b0]) | skip)
      by_cases c7 : a0 > 9
      · rw [if_pos c7] at H
        have c7b0 : decide (9 < a0) = true := decide_eq_true c7
        clear c7
        have H' := Aside0.mk H
        clear H
        go_wp2
        go_meet
        case rel => exact ⟨_, (true), (by first | rfl | (simp; done) | (simp [*]; done)), H', ⟨by first | omega | exact Nat.le_refl _⟩, ⟨by repeat (first | (with_reducible first | exact HB.out | apply below_alloc | apply pw_below_drewN | apply below_drew1) | exact HB.out)⟩⟩
      · rw [if_neg c7] at H
        have c7b0 : decide (9 < a0) = false := decide_eq_false c7
        clear c7
        have H' := Aside0.mk H
        clear H
        go_wp2
        go_meet
        case rel => exact ⟨_, ((t110 == 0)), (by first | rfl | (simp; done) | (simp [*]; done)), H', ⟨by first | omega | exact Nat.le_refl _⟩, ⟨by repeat (first | (with_reducible first | exact HB.out | apply below_alloc | apply pw_below_drewN | apply below_drew1) | exact HB.out)⟩⟩
  case rest =>
    clear HC5
    try clear c1
    try clear p2
    try clear c6
    try clear c6b0
    try clear c7
    try clear c7b0
    obtain ⟨kq, x24_4, rfl, HA, HJ4, HB⟩ := hcut
    cases kq with
    | zero => exact absurd HA.out (by simp [tollref27_Next.j0])
    | succ kj4 =>
      have H := HA.out
      clear HA
      simp only [tollref27_Next.j0] at H
      by_cases c8 : x24_4 = true
      · subst c8
        have H1 : (some (a0, false)) = some (r1, r2) := by rw [if_pos rfl] at H; exact H
        clear H
        have H := H1
        clear H1
        simp only [Option.some.injEq, Prod.mk.injEq] at H
        obtain ⟨rfl, rfl⟩ := H
        go_wp2
        go_ret2
        exact ⟨by first | rfl | (simp [errW_none, errW_some] <;> rfl) | (simp [*, errW_none, errW_some] <;> rfl), by repeat (first | (with_reducible first | exact HB.out | apply below_alloc | apply pw_below_drewN | apply below_drew1) | exact HB.out)⟩
      · replace c8 := Bool.eq_false_iff.mpr c8
        subst c8
        have H1 : (if a1 = true then (tollref27_Next.j1 kj4 a0 (wrap64 ((wrap64 (t110 - 1)) + 5))) else (tollref27_Next.j1 kj4 a0 (wrap64 (t110 - 1)))) = some (r1, r2) := by rw [if_neg (show ¬ (false = true) by decide)] at H; exact H
        clear H
        have H := H1
        clear H1
        have HC9 := Aside0.mk H
        clear H
        go_upto_if 28 with (fail)
        go_cut [9] (fun v9 wc => ∃ (kq : Nat) (x9_8 : Int), v9 = .int .i64 x9_8 ∧ Aside0 (tollref27_Next.j1 kq a0 x9_8 = some (r1, r2)) ∧ Aside0 (kq ≤ kj4) ∧ Aside0 (Below w.heap.size w wc))
        case first =>
          have H := HC9.out
          clear HC9
          by_cases c10 : a1 = true
          · subst c10
            have H1 : (tollref27_Next.j1 kj4 a0 (wrap64 ((wrap64 (t110 - 1)) + 5))) = some (r1, r2) := by rw [if_pos rfl] at H; exact H
            clear H
            have H := H1
            clear H1
            have H' := Aside0.mk H
            clear H
            go_wp2
            go_meet
            case rel => exact ⟨_, (wrap64 ((wrap64 (t110 - 1)) + 5)), (by first | rfl | (simp; done) | (simp [*]; done)), H', ⟨by have := HJ4.out; first | omega | exact Nat.le_refl _⟩, ⟨by repeat (first | (with_reducible first | exact HB.out | apply below_alloc | apply pw_below_drewN | apply below_drew1) | exact HB.out)⟩⟩
          · replace c10 := Bool.eq_false_iff.mpr c10
            subst c10
            have H1 : (tollref27_Next.j1 kj4 a0 (wrap64 (t110 - 1))) = some (r1, r2) := by rw [if_neg (show ¬ (false = true) by decide)] at H; exact H
            clear H
            have H := H1
            clear H1
            have H' := Aside0.mk H
            clear H
            go_wp2
            go_meet
            case rel => exact ⟨_, (wrap64 (t110 - 1)), (by first | rfl | (simp; done) | (simp [*]; done)), H', ⟨by have := HJ4.out; first | omega | exact Nat.le_refl _⟩, ⟨by repeat (first | (with_reducible first | exact HB.out | apply below_alloc | apply pw_below_drewN | apply below_drew1) | exact HB.out)⟩⟩
        case rest =>
          clear HC9
          try clear c1
          try clear p2
          try clear c6
          try clear c6b0
          try clear p6
          try clear c7
          try clear c7b0
          try clear c8
          try clear c10
          try clear p2
          obtain ⟨kq, x9_8, rfl, HA, HJ8, HB⟩ := hcut
          cases kq with
          | zero => exact absurd HA.out (by simp [tollref27_Next.j1])
          | succ kj8 =>
            have H := HA.out
            clear HA
            simp only [tollref27_Next.j1] at H
            replace H := Option.bind_eq_some_iff.mp H
            obtain ⟨t111, A110, H⟩ := H
            replace H : (if 0 ≤ a0 then (if a0 < (t111.length : Int) then (if 0 ≤ x9_8 then (if x9_8 < ((rdOf ByteArray.empty t111 a0).size : Int) then (tollref27_Next.l0 kj8 a0 (bt (rdOf ByteArray.empty t111 a0) x9_8) (⟨#[78, 83, 67, 65, 79, 72, 73, 66, 76, 71]⟩ : ByteArray) 0) else (none)) else (none)) else (none)) else (none)) = some (r1, r2) := H
            have A11 := Aside0.mk A110
            clear A110
            by_cases c12 : 0 ≤ a0
            · rw [if_pos c12] at H
              have c12b0 : decide (0 ≤ a0) = true := decide_eq_true c12
              clear c12
              by_cases c13 : a0 < (t111.length : Int)
              · rw [if_pos c13] at H
                have c13b0 : decide (a0 < (t111.length : Int)) = true := decide_eq_true c13
                clear c13
                by_cases c14 : 0 ≤ x9_8
                · rw [if_pos c14] at H
                  have c14b0 : decide (0 ≤ x9_8) = true := decide_eq_true c14
                  clear c14
                  by_cases c15 : x9_8 < ((rdOf ByteArray.empty t111 a0).size : Int)
                  · rw [if_pos c15] at H
                    have c15b0 : decide (x9_8 < ((rdOf ByteArray.empty t111 a0).size : Int)) = true := decide_eq_true c15
                    clear c15
                    have H' := Aside0.mk H
                    clear H
                    go_wp2_with (first | ((with_reducible refine gate_callee (f := 22) rfl ?_); refine goesL_ (some 31) rfl rfl Tryd.func22 (by kernel_rfl) rfl #[] rfl (by (try simp only [List.map_toArray, List.map_cons, List.map_nil]); first | done | rfl | (simp only [List.length_drop, List.length_take]; rfl)) ?_; (with_reducible refine (tollref27_rows.calls  t111 _ A11.out).mono ?_); rintro e w17 ⟨v112, rfl, ho0, hb⟩; refine ⟨_, rfl, ?_⟩; have n0_ := Aside0.mk (Kd.R_lower ho0 (below_size (by repeat (first | (with_reducible first | exact HB.out | apply below_alloc | apply pw_below_drewN | apply below_drew1) | exact HB.out)))); have n1_ := Aside0.mk (below_step (by repeat (first | (with_reducible first | exact HB.out | apply below_alloc | apply pw_below_drewN | apply below_drew1) | exact HB.out)) hb); clear HB; have HO113 := n0_; have HB := n1_; clear n0_ n1_; (try clear hb); (try clear hb2); (try clear hk); (try clear hi); (try clear ho0); obtain ⟨Ao18, co18, eo18⟩ := Kd.R_slice HO113.out; subst eo18; have p114 : 0 ≤ (a0 : Int) := of_decide_eq_true (by first | (with_reducible assumption) | assumption); have q114 : a0 < (t111.length : Int) := of_decide_eq_true (by first | (with_reducible assumption) | assumption); obtain ⟨ad114, e114, hx114_0⟩ := Kd.at_string (Kd.R_reads' HO113.out).2.2 a0 p114 q114; cases e114; replace p114 := eq_true p114; replace q114 := eq_true q114; have p16 : 0 ≤ (x9_8 : Int) := of_decide_eq_true (by first | (with_reducible assumption) | assumption); have q16 : x9_8 < ((rdOf ByteArray.empty t111 a0).size : Int) := of_decide_eq_true (by first | (with_reducible assumption) | assumption); have hx16 := bt_at (rdOf ByteArray.empty t111 a0) x9_8; replace p16 := eq_true p16; replace q16 := eq_true q16))
                    go_loopg [12] kj8 (fun kq v12 w' => ∃ (x12_3 : Int), v12 = .int .i64 x12_3 ∧ Aside0 (tollref27_Next.l0 kq a0 (bt (rdOf ByteArray.empty t111 a0) x9_8) (⟨#[78, 83, 67, 65, 79, 72, 73, 66, 76, 71]⟩ : ByteArray) x12_3 = some (r1, r2)) ∧ Aside0 (kq ≤ kj8) ∧ Aside0 (Below w.heap.size w w'))
                    case atStart => exact ⟨(0), (by first | rfl | (simp; done) | (simp [*]; done)), H', ⟨Nat.le_refl _⟩, ⟨by repeat (first | (with_reducible first | exact HB.out | apply below_alloc | apply pw_below_drewN | apply below_drew1) | exact HB.out)⟩⟩
                    case round =>
                      clear H'
                      try clear c1
                      try clear p1
                      try clear q1
                      try clear hx1
                      try clear c2
                      try clear p2
                      try clear c6
                      try clear c6b0
                      try clear p6
                      try clear c7
                      try clear c7b0
                      try clear c8
                      try clear c10
                      try clear c11
                      try clear p11
                      try clear q11
                      try clear hx11
                      try clear c12
                      try clear c12b0
                      try clear c13
                      try clear c13b0
                      try clear c14
                      try clear c14b0
                      try clear c15
                      try clear c15b0
                      try clear c16
                      try clear p16
                      try clear q16
                      try clear hx16
                      try clear hx114_0
                      try clear p114
                      try clear p16
                      try clear p2
                      try clear p6
                      try clear q114
                      try clear q16
                      obtain ⟨x12_3, rfl, HA, HK3, HB⟩ := hrel
                      cases gk with
                      | zero => exact absurd HA.out (by simp [tollref27_Next.l0])
                      | succ k3 =>
                        have H := HA.out
                        clear HA
                        simp only [tollref27_Next.l0] at H
                        by_cases c19 : x12_3 < 10
                        · rw [if_pos c19] at H
                          have c19b0 : decide (x12_3 < 10) = true := decide_eq_true c19
                          clear c19
                          by_cases c20 : 0 ≤ x12_3
                          · rw [if_pos c20] at H
                            have c20b0 : decide (0 ≤ x12_3) = true := decide_eq_true c20
                            clear c20
                            by_cases c21 : x12_3 < ((⟨#[78, 83, 67, 65, 79, 72, 73, 66, 76, 71]⟩ : ByteArray).size : Int)
                            · rw [if_pos c21] at H
                              have c21b0 : decide (x12_3 < ((⟨#[78, 83, 67, 65, 79, 72, 73, 66, 76, 71]⟩ : ByteArray).size : Int)) = true := decide_eq_true c21
                              clear c21
                              by_cases c23 : (bt (⟨#[78, 83, 67, 65, 79, 72, 73, 66, 76, 71]⟩ : ByteArray) x12_3) = (bt (rdOf ByteArray.empty t111 a0) x9_8)
                              · rw [if_pos c23] at H
                                have c23b0 : ((bt (⟨#[78, 83, 67, 65, 79, 72, 73, 66, 76, 71]⟩ : ByteArray) x12_3) == (bt (rdOf ByteArray.empty t111 a0) x9_8)) = true := beq_iff_eq.mpr c23
                                have c23b1 : ((bt (⟨#[78, 83, 67, 65, 79, 72, 73, 66, 76, 71]⟩ : ByteArray) x12_3) != (bt (rdOf ByteArray.empty t111 a0) x9_8)) = false := bne_eq_false_iff_eq.mpr c23
                                clear c23
                                simp only [Option.some.injEq, Prod.mk.injEq] at H
                                obtain ⟨rfl, rfl⟩ := H
                                have p22 : 0 ≤ (x12_3 : Int) := of_decide_eq_true (by first | (with_reducible assumption) | assumption)
                                have q22 : x12_3 < (10 : Int) := of_decide_eq_true (by first | (with_reducible assumption) | assumption)
                                have hx22 := bt_at (⟨#[78, 83, 67, 65, 79, 72, 73, 66, 76, 71]⟩ : ByteArray) x12_3
                                replace p22 := eq_true p22
                                replace q22 := eq_true q22
                                go_wp2
                                go_ret2
                                exact ⟨by first | rfl | (simp [errW_none, errW_some] <;> rfl) | (simp [*, errW_none, errW_some] <;> rfl), by repeat (first | (with_reducible first | exact HB.out | apply below_alloc | apply pw_below_drewN | apply below_drew1) | exact HB.out)⟩
                              · rw [if_neg c23] at H
                                have c23b0 : ((bt (⟨#[78, 83, 67, 65, 79, 72, 73, 66, 76, 71]⟩ : ByteArray) x12_3) == (bt (rdOf ByteArray.empty t111 a0) x9_8)) = false := beq_eq_false_iff_ne.mpr c23
                                have c23b1 : ((bt (⟨#[78, 83, 67, 65, 79, 72, 73, 66, 76, 71]⟩ : ByteArray) x12_3) != (bt (rdOf ByteArray.empty t111 a0) x9_8)) = true := bne_iff_ne.mpr c23
                                have H' := Aside0.mk H
                                clear H
                                have p22 : 0 ≤ (x12_3 : Int) := of_decide_eq_true (by first | (with_reducible assumption) | assumption)
                                have q22 : x12_3 < (10 : Int) := of_decide_eq_true (by first | (with_reducible assumption) | assumption)
                                have hx22 := bt_at (⟨#[78, 83, 67, 65, 79, 72, 73, 66, 76, 71]⟩ : ByteArray) x12_3
                                replace p22 := eq_true p22
                                replace q22 := eq_true q22
                                go_wp2
                                go_roundg k3
                                case measure => have := HJ4.out; have := HJ8.out; have := HK3.out; omega
                                case rel => exact ⟨(wrap64 (x12_3 + 1)), (by first | rfl | (simp; done) | (simp [*]; done)), H', ⟨by have := HJ4.out; have := HJ8.out; have := HK3.out; omega⟩, ⟨by repeat (first | (with_reducible first | exact HB.out | apply below_alloc | apply pw_below_drewN | apply below_drew1) | exact HB.out)⟩⟩
                            · rw [if_neg c21] at H
                              exact absurd H (by simp)
                          · rw [if_neg c20] at H
                            exact absurd H (by simp)
                        · rw [if_neg c19] at H
                          have c19b0 : decide (x12_3 < 10) = false := decide_eq_false c19
                          clear c19
                          simp only [Option.some.injEq, Prod.mk.injEq] at H
                          obtain ⟨rfl, rfl⟩ := H
                          go_wp2
                          go_ret2
                          exact ⟨by first | rfl | (simp [errW_none, errW_some] <;> rfl) | (simp [*, errW_none, errW_some] <;> rfl), by repeat (first | (with_reducible first | exact HB.out | apply below_alloc | apply pw_below_drewN | apply below_drew1) | exact HB.out)⟩
                  · rw [if_neg c15] at H
                    exact absurd H (by simp)
                · rw [if_neg c14] at H
                  exact absurd H (by simp)
              · rw [if_neg c13] at H
                exact absurd H (by simp)
            · rw [if_neg c12] at H
              exact absurd H (by simp)

-- NOT PRINTED: function 14 (tolllaw27_runs)

-- NOT PRINTED: function 12 (tolllaw27_wakes)

-- NOT PRINTED: function 3 (tolllaw27_StateRuns)

end Go.Proofs.YtpheeljemkpnaaaDoor.PStateRuns
