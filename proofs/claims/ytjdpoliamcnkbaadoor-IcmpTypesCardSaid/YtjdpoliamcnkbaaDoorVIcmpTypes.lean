import Derived.Test.YtjdpoliamcnkbaaDoorIcmpTells
namespace Go.Proofs.YtjdpoliamcnkbaaDoor.T
open Go.BigFrame Go.RowKit Go.Maps Go.Proofs.YtjdpoliamcnkbaaDoorW.PrintWords
set_option linter.unusedVariables false
set_option linter.unusedSimpArgs false
set_option maxRecDepth 100000

def typeChk (t : Nat) : Bool :=
  let b := backN t
  let k := kindN t
  (b.2 == (k == 2 || k == 3)) && (b.2 || b.1 == 0) && (!b.2 || (decide (0 ≤ b.1) && decide (b.1 ≤ 255) && backN b.1 == ((t : Int), true) && kindN b.1 == 5 - k))
theorem typeChk_all : ∀ t : Nat, t < 256 → typeChk t = true := by decide +kernel

set_option maxHeartbeats 1000000 in
theorem types_law (t : Int) (h0 : 0 ≤ t) (h1 : t ≤ 255) (w : World) (hK : Kinds w) : Calls Tryd.prog 3 #[.int .u8 t] w fun e w' => e = .returned (.bool true) ∧ Bel w w' := by
  have chk := typeChk_all t.toNat (by omega)
  unfold typeChk at chk
  rw [Int.toNat_of_nonneg h0] at chk
  have HK := Aside0.mk hK
  have cb := back_any t 0 0 0 0 0 none 0 0 h0 h1
  have ck := kind_any t 0 0 0 0 0 none 0 0 h0 h1
  have kr := kindN_range t
  obtain ⟨k, hk⟩ : ∃ k, k = kindN t := ⟨_, rfl⟩
  obtain ⟨p, hp⟩ : ∃ p, p = backN t := ⟨_, rfl⟩
  rw [← hk, ← hp] at chk
  rw [← hp] at cb
  rw [← hk] at ck kr
  obtain ⟨u, b⟩ := p
  simp only [Bool.and_eq_true] at chk
  obtain ⟨⟨y1, y2⟩, y3⟩ := chk
  obtain ⟨k0, k3⟩ := kr
  have CB := Aside0.mk cb
  have CK := Aside0.mk ck
  have tk0 : decide (k < 0) = false := by simp; omega
  have tk3 : decide (3 < k) = false := by simp; omega
  cases b
  · have hk2 : (k == 2) = false := by cases e : (k == 2) <;> simp [e] at y1 ⊢
    have hk3 : (k == 3) = false := by cases e : (k == 3) <;> simp [e, hk2] at y1 ⊢
    have hu : u = 0 := by simpa using y2
    subst hu
    clear y1 y2 y3 cb ck k0 k3 hk hp hK h0 h1
    go_enter Tryd.func3, Tryd.ntmps3
    go_wp2_with (first
      | (go_at_call 9; (with_reducible refine (CB.out _ (HK.out.bel (by repeat (first | assumption | exact Bel.refl _ | apply Bel.drewN | apply Bel.alloc | refine Bel.trans ?_ (by assumption))))).mono ?_); rintro e w2 ⟨rfl, hb2⟩; obtain ⟨hc2, hf2, hz2⟩ := hb2.rules)
      | (go_at_call 10; (with_reducible refine (CK.out _ (HK.out.bel (by repeat (first | assumption | exact Bel.refl _ | apply Bel.drewN | apply Bel.alloc | refine Bel.trans ?_ (by assumption))))).mono ?_); rintro e w1 ⟨rfl, rfl⟩)
      | (go_at_call 11; (with_reducible refine (tells8_any _ (HK.out.bel (by repeat (first | assumption | exact Bel.refl _ | apply Bel.drewN | apply Bel.alloc | refine Bel.trans ?_ (by assumption))))).mono ?_); rintro e w3 ⟨rfl, hb3⟩))
    go_ret
    exact ⟨rfl, (by repeat (first | assumption | exact Bel.refl _ | apply Bel.drewN | apply Bel.alloc | refine Bel.trans ?_ (by assumption)))⟩
  · simp only [Bool.not_true, Bool.false_or, Bool.and_eq_true, decide_eq_true_eq, beq_iff_eq] at y3
    obtain ⟨⟨⟨u0, u1⟩, u2⟩, u3⟩ := y3
    have cb2 := back_any u 0 0 0 0 0 none 0 0 u0 u1
    have ck2 := kind_any u 0 0 0 0 0 none 0 0 u0 u1
    rw [u2] at cb2
    rw [u3] at ck2
    have CB2 := Aside0.mk cb2
    have CK2 := Aside0.mk ck2
    have hk23 : k = 2 ∨ k = 3 := by
      have := y1.symm
      simpa using this
    clear y1 y2 cb ck cb2 ck2 hp hK h0 h1 u0 u1 u2 u3 k0 k3 hk tk0 tk3
    rcases hk23 with rfl | rfl
    all_goals
      go_enter Tryd.func3, Tryd.ntmps3
      go_wp2_with (first
        | (go_at_call 9; (with_reducible refine (CB.out _ (HK.out.bel (by repeat (first | assumption | exact Bel.refl _ | apply Bel.drewN | apply Bel.alloc | refine Bel.trans ?_ (by assumption))))).mono ?_); rintro e w2 ⟨rfl, hb2⟩; obtain ⟨hc2, hf2, hz2⟩ := hb2.rules)
        | (go_at_call 10; (with_reducible refine (CK.out _ (HK.out.bel (by repeat (first | assumption | exact Bel.refl _ | apply Bel.drewN | apply Bel.alloc | refine Bel.trans ?_ (by assumption))))).mono ?_); rintro e w1 ⟨rfl, rfl⟩)
        | (go_at_call 9; (with_reducible refine (CB2.out _ (HK.out.bel (by repeat (first | assumption | exact Bel.refl _ | apply Bel.drewN | apply Bel.alloc | refine Bel.trans ?_ (by assumption))))).mono ?_); rintro e w4 ⟨rfl, hb4⟩; obtain ⟨hc4, hf4, hz4⟩ := hb4.rules)
        | (go_at_call 10; (with_reducible refine (CK2.out _ (HK.out.bel (by repeat (first | assumption | exact Bel.refl _ | apply Bel.drewN | apply Bel.alloc | refine Bel.trans ?_ (by assumption))))).mono ?_); rintro e w1 ⟨rfl, rfl⟩)
        | (go_at_call 11; (with_reducible refine (tells8_any _ (HK.out.bel (by repeat (first | assumption | exact Bel.refl _ | apply Bel.drewN | apply Bel.alloc | refine Bel.trans ?_ (by assumption))))).mono ?_); rintro e w3 ⟨rfl, hb3⟩))
      go_ret
      exact ⟨rfl, (by repeat (first | assumption | exact Bel.refl _ | apply Bel.drewN | apply Bel.alloc | refine Bel.trans ?_ (by assumption)))⟩
end Go.Proofs.YtjdpoliamcnkbaaDoor.T
