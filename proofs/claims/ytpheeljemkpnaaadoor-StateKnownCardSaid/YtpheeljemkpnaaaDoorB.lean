import Derived.Test.YtpheeljemkpnaaaDoorA
namespace Go.Proofs.YtpheeljemkpnaaaDoor.AW
open Go.BigFrame Go.RowKit Go.Proofs.YtpheeljemkpnaaaDoorW.PrintWords Go.Proofs.YtpheeljemkpnaaaDoorW.PrintLast Go.Proofs.YtpheeljemkpnaaaDoorW.PrintMore
set_option linter.unusedVariables false
set_option linter.unusedSimpArgs false

theorem kind_range (f : Int) : ∃ k : Nat, k < 6 ∧ kindOf f = k := by
  unfold kindOf PStateRuns.tcpstate_Kind.f
  repeat' split
  all_goals first | exact ⟨0, by omega, rfl⟩ | exact ⟨1, by omega, rfl⟩ | exact ⟨2, by omega, rfl⟩ | exact ⟨3, by omega, rfl⟩ | exact ⟨4, by omega, rfl⟩ | exact ⟨5, by omega, rfl⟩

def sideOf (r : Bool) : Nat := if r then 1 else 0
/-- Where a state leads. -/
def stepN (s : Nat) (r : Bool) (f : Int) : Nat × Bool :=
  let v := at3 s (if r then 1 else 0) (kindOf f).toNat
  if v = -1 then (s, false) else (v.toNat, true)

theorem at3_range : ∀ s, s < 10 → ∀ side, side < 2 → ∀ k, k < 6 → -1 ≤ at3 s side k ∧ at3 s side k < 10 := by decide

theorem step_lt (s : Nat) (hs : s < 10) (r : Bool) (f : Int) : (stepN s r f).1 < 10 := by
  unfold stepN
  obtain ⟨k, hk, e⟩ := kind_range f
  have h := at3_range s hs (if r then 1 else 0) (by split <;> omega) k hk
  simp only [e, Int.toNat_natCast]
  by_cases hv : at3 s (if r then 1 else 0) k = -1
  · rw [if_pos hv]; exact hs
  · rw [if_neg hv]; dsimp only; omega

theorem next_any (s : Nat) (hs : s < 10) (r : Bool) (f : Int) (w : World) (hT : Tabs w) :
    Calls Tryd.prog 10 #[.int .i64 s, .bool r, .int .u8 f] w fun e w' => e = .returned (.tuple #[.int .i64 ((stepN s r f).1 : Nat), .bool (stepN s r f).2]) ∧ Drawn0 w w' := by
  obtain ⟨k, hk, e⟩ := kind_range f
  have h := at3_range s hs (if r then 1 else 0) (by split <;> omega) k hk
  unfold stepN
  simp only [e, Int.toNat_natCast]
  by_cases hv : at3 s (if r then 1 else 0) k = -1
  · rw [if_pos hv]
    exact next_no s hs r f k hk e w hT hv
  · rw [if_neg hv]
    have := next_yes s hs r f k hk e w hT _ rfl (by omega)
    simpa [Int.toNat_of_nonneg (show 0 ≤ at3 s (if r then 1 else 0) k by omega)] using this

def runsN (s : Nat) (ps : List (Bool × Int)) : Nat := ps.foldl (fun s p => (stepN s p.1 p.2).1) s
theorem runsN_lt (ps : List (Bool × Int)) : ∀ (s : Nat), s < 10 → runsN s ps < 10 := by
  unfold runsN
  induction ps with
  | nil => intro s h; exact h
  | cons p ps ih => intro s h; exact ih _ (step_lt s h p.1 p.2)
theorem runsN_take (s : Nat) (ps : List (Bool × Int)) (i : Nat) (h : i < ps.length) : runsN s (ps.take (i + 1)) = (stepN (runsN s (ps.take i)) (ps.getD i default).1 (ps.getD i default).2).1 := by
  unfold runsN
  rw [List.take_succ_eq_append_getElem h, List.foldl_append]
  simp [List.getD, h]

/-- A slice of parts, as it lies. -/
def Parts (w : World) (A : Option Addr) (ps : List (Bool × Int)) : Prop :=
  ∀ i, i < ps.length → ∃ ad, A = some ad ∧ w.cell? (ad.add (i * 2)) = some (.bool (ps.getD i default).1) ∧ w.cell? ⟨(ad.add (i * 2)).block, (ad.add (i * 2)).off + 1, none⟩ = some (.int .u8 (ps.getD i default).2)
theorem Parts.below {w w1 : World} {A : Option Addr} {ps : List (Bool × Int)} (h : Parts w A ps) (hb : Below w.heap.size w w1) : Parts w1 A ps := fun i hi => by
  obtain ⟨ad, e, h1, h2⟩ := h i hi
  exact ⟨ad, e, pw_cell_below hb h1, pw_cell_below hb h2⟩

set_option maxHeartbeats 4000000 in
theorem runs_any (s : Nat) (hs : s < 10) (ps : List (Bool × Int)) (A : Option Addr) (c : Nat) (w : World) (hT : Tabs w) (hP : Parts w A ps) (hn : ps.length ≤ 140737488351232) :
    Calls Tryd.prog 14 #[.int .i64 s, .slice A ps.length c] w fun e w' => e = .returned (.int .i64 (runsN s ps : Nat)) ∧ Below w.heap.size w w' := by
  have HT := Aside0.mk hT
  have HP := Aside0.mk hP
  have HS := Aside0.mk hs
  clear hT hP hs
  obtain ⟨n, hN⟩ : ∃ n, n = ps.length := ⟨_, rfl⟩
  rw [← hN] at hn ⊢
  have HN := Aside0.mk hN
  clear hN
  go_enter Tryd.func14, Tryd.ntmps14
  go_wp2
  go_loopw [0, 9] (fun v0 v9 wr => ∃ i : Nat, i ≤ n ∧ v9 = .int .i64 i ∧ v0 = .int .i64 (runsN s (ps.take i) : Nat) ∧ Below w.heap.size w wr) (fun _ v9 _ => n - (intOf v9).toNat)
  case atStart => exact ⟨0, by omega, rfl, rfl, Below.refl _ _⟩
  case round =>
    obtain ⟨i, hi, rfl, rfl, hB⟩ := hrel
    have HB := Aside0.mk hB
    clear hB
    by_cases hlt : i < n
    · obtain ⟨ad, rfl, c1, c2⟩ := (HP.out.below HB.out) i (by rw [← HN.out]; exact hlt)
      obtain ⟨p, hp⟩ : ∃ p, p = ps.getD i default := ⟨_, rfl⟩
      rw [← hp] at c1 c2
      have HQ := Aside0.mk hp
      clear hp
      have hst := runsN_lt (ps.take i) s HS.out
      obtain ⟨st, hstE⟩ : ∃ st, st = runsN s (ps.take i) := ⟨_, rfl⟩
      rw [← hstE] at hst ⊢
      have HST := Aside0.mk hstE
      clear hstE
      go_wp2_with (go_at_call 10; refine (next_any st hst p.1 p.2 _ (HT.out.below (by repeat (first | exact HB.out | apply below_alloc | apply pw_below_drewN)))).mono ?_; rintro e w' ⟨rfl, ⟨m, rfl⟩⟩)
      go_roundw
      case rel => exact ⟨i + 1, by omega, by go_num, by rw [runsN_take s ps i (by rw [← HN.out]; exact hlt), ← HST.out, ← HQ.out], by repeat (first | exact HB.out | apply below_alloc | apply pw_below_drewN)⟩
      case measure => simp [intOf]; omega
    · obtain rfl : i = n := by omega
      have e : runsN s (ps.take i) = runsN s ps := by rw [List.take_of_length_le (by rw [← HN.out]; exact Nat.le_refl _)]
      go_wp2
      go_ret
      exact ⟨by rw [e]; rfl, by repeat (first | exact HB.out | apply below_alloc | apply pw_below_drewN)⟩
end Go.Proofs.YtpheeljemkpnaaaDoor.AW
