import Derived.Test.YtpheeljemkpnaaaDoorC
namespace Go.Proofs.YtpheeljemkpnaaaDoor.AW
open Go.BigFrame Go.RowKit Go.Proofs.YtpheeljemkpnaaaDoorW.PrintWords Go.Proofs.YtpheeljemkpnaaaDoorW.PrintLast Go.Proofs.YtpheeljemkpnaaaDoorW.PrintMore
set_option linter.unusedVariables false
set_option linter.unusedSimpArgs false
set_option maxRecDepth 100000

theorem refkind_all : ∀ n : Nat, n < 256 → PStateRuns.tollref27_Kind.f 20 (n : Int) = some (kindOf n) := by decide +kernel
theorem refkind (f : Int) (h0 : 0 ≤ f) (h1 : f ≤ 255) : PStateRuns.tollref27_Kind.f 20 f = some (kindOf f) := by
  have := refkind_all f.toNat (by omega)
  rwa [Int.toNat_of_nonneg h0] at this
def stepK (s : Nat) (r : Bool) (k : Nat) : Int × Bool :=
  let v := at3 s (if r then 1 else 0) k
  if v = -1 then (s, false) else (v, true)
theorem refj : ∀ s : Nat, s < 10 → ∀ r : Bool, ∀ k : Nat, k < 6 → PStateRuns.tollref27_Next.j0 20 (s : Int) r (k : Int) (((k : Nat) : Int) == 0) = some (stepK s r k) := by decide +kernel
theorem step_K (s : Nat) (r : Bool) (f : Int) (k : Nat) (hk : kindOf f = k) (h : -1 ≤ at3 s (if r then 1 else 0) k) : stepK s r k = (((stepN s r f).1 : Int), (stepN s r f).2) := by
  unfold stepK stepN
  simp only [hk, Int.toNat_natCast]
  by_cases hv : at3 s (if r then 1 else 0) k = -1
  · rw [if_pos hv, if_pos hv]
  · rw [if_neg hv, if_neg hv]
    dsimp only
    rw [Int.toNat_of_nonneg (by omega)]
theorem ref_f (s : Nat) (hs : s < 10) (r : Bool) (f : Int) (h0 : 0 ≤ f) (h1 : f ≤ 255) : PStateRuns.tollref27_Next.f 20 s r f = some (((stepN s r f).1 : Int), (stepN s r f).2) := by
  obtain ⟨k, hk, e⟩ := kind_range f
  have h := at3_range s hs (if r then 1 else 0) (by split <;> omega) k hk
  unfold PStateRuns.tollref27_Next.f
  rw [refkind f h0 h1]
  simp only [Option.bind_some]
  rw [if_neg (by omega), if_neg (by omega), e, refj s hs r k hk, step_K s r f k e h.1]
theorem ref_next (s : Nat) (hs : s < 10) (r : Bool) (f : Int) (h0 : 0 ≤ f) (h1 : f ≤ 255) (w : World) :
    Calls Tryd.prog 11 #[.int .i64 s, .bool r, .int .u8 f] w fun e w' => e = .returned (.tuple #[.int .i64 ((stepN s r f).1 : Nat), .bool (stepN s r f).2]) ∧ Below w.heap.size w w' :=
  PStateRuns.tollref27_Next.calls 20 s r f _ _ w (ref_f s hs r f h0 h1)

theorem rng_at {ps : List (Bool × Int)} (h : ∀ p ∈ ps, 0 ≤ p.2 ∧ p.2 ≤ 255) (i : Nat) (hi : i < ps.length) : 0 ≤ (ps.getD i default).2 ∧ (ps.getD i default).2 ≤ 255 := by
  rw [List.getD_eq_getElem?_getD, List.getElem?_eq_getElem hi]
  exact h _ (List.getElem_mem hi)

set_option maxHeartbeats 4000000 in
theorem runs_law (ps : List (Bool × Int)) (A : Option Addr) (c : Nat) (w : World) (hT : Tabs w) (hO : Opn w) (hP : Parts w A ps) (hr : ∀ p ∈ ps, 0 ≤ p.2 ∧ p.2 ≤ 255) (hn : ps.length ≤ 140737488351232) :
    Calls Tryd.prog 3 #[.slice A ps.length c] w fun e w' => e = .returned (.bool true) ∧ Below w.heap.size w w' := by
  have HT := Aside0.mk hT
  have HO := Aside0.mk hO
  have HP := Aside0.mk hP
  have HR := Aside0.mk hr
  clear hT hP hO hr
  obtain ⟨n, hN⟩ : ∃ n, n = ps.length := ⟨_, rfl⟩
  rw [← hN] at hn ⊢
  have HN := Aside0.mk hN
  clear hN
  go_enter Tryd.func3, Tryd.ntmps3
  go_wp2
  go_loopw [3, 4, 13] (fun v3 v4 v13 wr => ∃ i st : Nat, i ≤ n ∧ st < 10 ∧ v13 = .int .i64 i ∧ v3 = .int .i64 st ∧ v4 = .int .i64 st ∧ Below w.heap.size w wr) (fun _ _ v13 _ => n - (intOf v13).toNat)
  case atStart => exact ⟨0, 0, by omega, by omega, rfl, rfl, rfl, Below.refl _ _⟩
  case round =>
    obtain ⟨i, st, hi, hst, rfl, rfl, rfl, hB⟩ := hrel
    have HB := Aside0.mk hB
    clear hB
    by_cases hlt : i < n
    · obtain ⟨ad, rfl, c1, c2⟩ := (HP.out.below HB.out) i (by rw [← HN.out]; exact hlt)
      obtain ⟨p0, p1⟩ := rng_at HR.out i (by rw [← HN.out]; exact hlt)
      obtain ⟨p, hp⟩ : ∃ p, p = ps.getD i default := ⟨_, rfl⟩
      rw [← hp] at c1 c2 p0 p1
      clear hp
      have P0 := Aside0.mk p0
      have P1 := Aside0.mk p1
      clear p0 p1
      by_cases h60 : i = 60
      · have h60' : ((i : Int) == 60) = true := by simp; omega
        clear h60
        go_wp2_with (go_at_call 12; (with_reducible refine (wakes_any _ (HT.out.below (by repeat (first | exact HB.out | apply below_alloc | apply pw_below_drewN))) (HO.out.below (by repeat (first | exact HB.out | apply below_alloc | apply pw_below_drewN)))).mono ?_); rintro e w1 ⟨rfl, hb⟩; have HB1 := Aside0.mk hb; clear hb)
        go_ret
        exact ⟨rfl, bel_trans (by repeat (first | exact HB.out | apply below_alloc | apply pw_below_drewN)) HB1.out⟩
      · have h60' : ((i : Int) == 60) = false := by simp; omega
        have hs' := step_lt st hst p.1 p.2
        obtain ⟨q, hq⟩ : ∃ q, q = stepN st p.1 p.2 := ⟨_, rfl⟩
        rw [← hq] at hs'
        have HQ := Aside0.mk hq
        clear hq
        go_wp2_with (first
          | (go_at_call 10; (with_reducible refine (next_any st hst p.1 p.2 _ (HT.out.below (by repeat (first | exact HB.out | apply below_alloc | apply pw_below_drewN)))).mono ?_); rw [← HQ.out]; rintro e w' ⟨rfl, ⟨m, rfl⟩⟩)
          | (go_at_call 11; (with_reducible refine (ref_next st hst p.1 p.2 P0.out P1.out _).mono ?_); rw [← HQ.out]; rintro e w1 ⟨rfl, hb⟩; have HB1 := Aside0.mk hb; clear hb))
        go_roundw
        case rel => exact ⟨i + 1, q.1, by omega, hs', by go_num, rfl, rfl, bel_trans (by repeat (first | exact HB.out | apply below_alloc | apply pw_below_drewN)) HB1.out⟩
        case measure => simp [intOf]; omega
    · go_wp2_with (go_at_call 12; (with_reducible refine (wakes_any _ (HT.out.below (by repeat (first | exact HB.out | apply below_alloc | apply pw_below_drewN))) (HO.out.below (by repeat (first | exact HB.out | apply below_alloc | apply pw_below_drewN)))).mono ?_); rintro e w1 ⟨rfl, hb⟩; have HB1 := Aside0.mk hb; clear hb)
      go_ret
      exact ⟨rfl, bel_trans (by repeat (first | exact HB.out | apply below_alloc | apply pw_below_drewN)) HB1.out⟩
end Go.Proofs.YtpheeljemkpnaaaDoor.AW
