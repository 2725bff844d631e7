import Derived.Test.YtjdpoliamcnkbaaDoorIcmpKind
namespace Go.Proofs.YtjdpoliamcnkbaaDoor.T
open Go.BigFrame Go.RowKit Go.Maps Go.Proofs.YtjdpoliamcnkbaaDoorW.PrintWords
set_option linter.unusedVariables false
set_option linter.unusedSimpArgs false
set_option maxRecDepth 100000

/-- The type's way back. -/
def backN (t : Int) : Int × Bool :=
  if kindN t = 2 ∨ kindN t = 3 then (if t = 0 ∨ t = 8 then (8 - t, true) else if kindN t = 2 then (t + 1, true) else (t - 1, true)) else (0, false)
theorem kind_byte (t : Int) : (kindN t = 2 → t = 8 ∨ t = 13 ∨ t = 15 ∨ t = 17) ∧ (kindN t = 3 → t = 0 ∨ t = 14 ∨ t = 16 ∨ t = 18) := by
  unfold kindN
  constructor
  · repeat' split
    all_goals intro h
    all_goals first | omega | assumption
  · repeat' split
    all_goals intro h
    all_goals first | omega | assumption

set_option maxHeartbeats 2000000 in
theorem back_any (t c r0 r1 r2 r3 : Int) (A : Option Addr) (n cp : Nat) (h0 : 0 ≤ t) (h1 : t ≤ 255) (w : World) (hK : Kinds w) :
    Calls Tryd.prog 9 #[.agg #[.int .u8 t, .int .u8 c, .int .u8 r0, .int .u8 r1, .int .u8 r2, .int .u8 r3, .slice A n cp]] w fun e w' => e = .returned (.tuple #[.int .u8 (backN t).1, .bool (backN t).2]) ∧ Bel w w' := by
  have HK := Aside0.mk hK
  have C := Aside0.mk (kind_any t c r0 r1 r2 r3 A n cp h0 h1)
  clear hK
  obtain ⟨kb2, kb3⟩ := kind_byte t
  unfold backN
  generalize kindN t = k at C kb2 kb3 ⊢
  by_cases hk : k = 2 ∨ k = 3
  · rw [if_pos hk]
    by_cases ht : t = 0 ∨ t = 8
    · rw [if_pos ht]
      rcases hk with rfl | rfl
      · obtain rfl : t = 8 := by have := kb2 rfl; omega
        clear kb2 kb3
        go_enter Tryd.func9, Tryd.ntmps9
        go_wp2_with (first
          | (go_at_call 10; (with_reducible refine (C.out _ (HK.out.bel (by repeat (first | assumption | exact Bel.refl _ | apply Bel.drewN | apply Bel.alloc | refine Bel.trans ?_ (by assumption))))).mono ?_); rintro e w1 ⟨rfl, rfl⟩))
        go_ret2
        exact ⟨by first | rfl | simp, by repeat (first | assumption | exact Bel.refl _ | apply Bel.drewN | apply Bel.alloc)⟩
      · obtain rfl : t = 0 := by have := kb3 rfl; omega
        clear kb2 kb3
        go_enter Tryd.func9, Tryd.ntmps9
        go_wp2_with (first
          | (go_at_call 10; (with_reducible refine (C.out _ (HK.out.bel (by repeat (first | assumption | exact Bel.refl _ | apply Bel.drewN | apply Bel.alloc | refine Bel.trans ?_ (by assumption))))).mono ?_); rintro e w1 ⟨rfl, rfl⟩))
        go_ret2
        exact ⟨by first | rfl | simp, by repeat (first | assumption | exact Bel.refl _ | apply Bel.drewN | apply Bel.alloc)⟩
    · rw [if_neg ht]
      have t0 : (t == 0) = false := by simp; omega
      have t8 : (t == 8) = false := by simp; omega
      rcases hk with rfl | rfl
      · have hb : 13 ≤ t ∧ t ≤ 17 := by have := kb2 rfl; omega
        obtain ⟨hb1, hb2⟩ := hb
        clear kb2 kb3 ht h0 h1
        go_enter Tryd.func9, Tryd.ntmps9
        go_wp2_with (first
          | (go_at_call 10; (with_reducible refine (C.out _ (HK.out.bel (by repeat (first | assumption | exact Bel.refl _ | apply Bel.drewN | apply Bel.alloc | refine Bel.trans ?_ (by assumption))))).mono ?_); rintro e w1 ⟨rfl, rfl⟩))
        go_ret2
        exact ⟨by first | rfl | simp, by repeat (first | assumption | exact Bel.refl _ | apply Bel.drewN | apply Bel.alloc)⟩
      · have hb : 14 ≤ t ∧ t ≤ 18 := by have := kb3 rfl; omega
        obtain ⟨hb1, hb2⟩ := hb
        clear kb2 kb3 ht h0 h1
        go_enter Tryd.func9, Tryd.ntmps9
        go_wp2_with (first
          | (go_at_call 10; (with_reducible refine (C.out _ (HK.out.bel (by repeat (first | assumption | exact Bel.refl _ | apply Bel.drewN | apply Bel.alloc | refine Bel.trans ?_ (by assumption))))).mono ?_); rintro e w1 ⟨rfl, rfl⟩))
        go_ret2
        exact ⟨by first | rfl | simp, by repeat (first | assumption | exact Bel.refl _ | apply Bel.drewN | apply Bel.alloc)⟩
  · rw [if_neg hk]
    have k2 : (k != 2) = true := by simp; omega
    have k3 : (k != 3) = true := by simp; omega
    clear hk kb2 kb3
    go_enter Tryd.func9, Tryd.ntmps9
    go_wp2_with (first
      | (go_at_call 10; (with_reducible refine (C.out _ (HK.out.bel (by repeat (first | assumption | exact Bel.refl _ | apply Bel.drewN | apply Bel.alloc | refine Bel.trans ?_ (by assumption))))).mono ?_); rintro e w1 ⟨rfl, rfl⟩))
    go_ret2
    exact ⟨by first | rfl | simp, by repeat (first | assumption | exact Bel.refl _ | apply Bel.drewN | apply Bel.alloc)⟩
end Go.Proofs.YtjdpoliamcnkbaaDoor.T
