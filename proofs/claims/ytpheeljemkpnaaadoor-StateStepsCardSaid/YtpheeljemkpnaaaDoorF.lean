import Derived.Test.YtpheeljemkpnaaaDoorC
namespace Go.Proofs.YtpheeljemkpnaaaDoor.AW
open Go.BigFrame Go.RowKit Go.Proofs.YtpheeljemkpnaaaDoorW.PrintWords Go.Proofs.YtpheeljemkpnaaaDoorW.PrintLast Go.Proofs.YtpheeljemkpnaaaDoorW.PrintMore
set_option linter.unusedVariables false
set_option linter.unusedSimpArgs false
set_option maxRecDepth 100000

theorem rngF_at {ps : List (Bool × Int)} (h : ∀ p ∈ ps, 0 ≤ p.2 ∧ p.2 ≤ 255) (i : Nat) (hi : i < ps.length) : 0 ≤ (ps.getD i default).2 ∧ (ps.getD i default).2 ≤ 255 := by
  rw [List.getD_eq_getElem?_getD, List.getElem?_eq_getElem hi]
  exact h _ (List.getElem_mem hi)

def stepNK (s : Nat) (r : Bool) (k : Nat) : Nat × Bool :=
  let v := at3 s (if r then 1 else 0) k
  if v = -1 then (s, false) else (v.toNat, true)
theorem stepN_k (s : Nat) (r : Bool) (f : Int) (k : Nat) (h : kindOf f = k) : stepN s r f = stepNK s r k := by
  unfold stepN stepNK
  rw [h]
  rfl
def turnN (s : Nat) : Nat := if s = 5 then 6 else if s = 6 then 5 else s
def sideChk (s : Nat) (r : Bool) (k : Nat) : Bool :=
  decide (s < 4) || ((s == 8 || s == 9) && k == 1) || ((stepNK s r k).2 == (stepNK (turnN s) (!r) k).2 && (stepNK (turnN s) (!r) k).1 == turnN (stepNK s r k).1 && decide (4 ≤ (stepNK s r k).1) && decide ((stepNK s r k).1 < 10))
theorem sideChk_all : ∀ s, s < 10 → ∀ r : Bool, ∀ k, k < 6 → sideChk s r k = true := by decide
theorem sides_all (s : Nat) (h : s < 10) (h4 : 4 ≤ s) (r : Bool) (k : Nat) (hk : k < 6) (hs : (s = 8 ∨ s = 9) → k ≠ 1) :
    (stepNK s r k).2 = (stepNK (turnN s) (!r) k).2 ∧ (stepNK (turnN s) (!r) k).1 = turnN (stepNK s r k).1 ∧ 4 ≤ (stepNK s r k).1 ∧ (stepNK s r k).1 < 10 := by
  have := sideChk_all s h r k hk
  unfold sideChk at this
  simp only [Bool.or_eq_true, Bool.and_eq_true, decide_eq_true_eq, beq_iff_eq] at this
  rcases this with (h1 | h1) | h1
  · omega
  · exact absurd h1.2 (hs h1.1)
  · exact ⟨h1.1.1.1, h1.1.1.2, h1.1.2, h1.2⟩
theorem turn_lt (s : Nat) (h : s < 10) : turnN s < 10 := by unfold turnN; split <;> (try split) <;> omega

theorem turned_any (s : Nat) (w : World) : Calls Tryd.prog 15 #[.int .i64 s] w fun e w' => e = .returned (.int .i64 (turnN s : Nat)) ∧ w = w' := by
  unfold turnN
  by_cases h5 : s = 5
  · subst h5
    go_enter Tryd.func15, Tryd.ntmps15
    go_wp2
    go_ret
    exact ⟨rfl, rfl⟩
  · by_cases h6 : s = 6
    · subst h6
      go_enter Tryd.func15, Tryd.ntmps15
      go_wp2
      go_ret
      exact ⟨rfl, rfl⟩
    · rw [if_neg h5, if_neg h6]
      have b5 : ((s : Int) == 5) = false := by simp; omega
      have b6 : ((s : Int) == 6) = false := by simp; omega
      clear h5 h6
      go_enter Tryd.func15, Tryd.ntmps15
      go_wp2
      go_ret
      exact ⟨rfl, rfl⟩

set_option maxHeartbeats 4000000 in
theorem sides_law (ps : List (Bool × Int)) (A : Option Addr) (c : Nat) (w : World) (hT : Tabs w) (hO : Opn w) (hP : Parts w A ps) (hn : ps.length ≤ 140737488351232) :
    Calls Tryd.prog 5 #[.slice A ps.length c] w fun e w' => e = .returned (.bool true) ∧ Below w.heap.size w w' := by
  have HT := Aside0.mk hT
  have HO := Aside0.mk hO
  have HP := Aside0.mk hP
  obtain ⟨oa, oc, ho, hop⟩ := hO
  have HOP := Aside0.mk hop
  clear hT hP hop
  obtain ⟨n, hN⟩ : ∃ n, n = ps.length := ⟨_, rfl⟩
  rw [← hN] at hn ⊢
  have HN := Aside0.mk hN
  clear hN
  go_enter Tryd.func5, Tryd.ntmps5
  go_wp2_with (first
    | (go_at_call 14; (with_reducible refine (runs_open_c oa oc w HT.out HOP.out).mono ?_); rintro e w0 ⟨rfl, hb⟩; have HB0 := Aside0.mk hb; clear hb))
  go_loopw [3, 4, 18] (fun v3 v4 v18 wr => ∃ i st : Nat, i ≤ n ∧ st < 10 ∧ 4 ≤ st ∧ v18 = .int .i64 i ∧ v3 = .int .i64 st ∧ v4 = .int .i64 (turnN st : Nat) ∧ Below w.heap.size w wr) (fun _ _ v18 _ => n - (intOf v18).toNat)
  case atStart => exact ⟨0, 4, by omega, by omega, by omega, rfl, rfl, rfl, HB0.out⟩
  case round =>
    obtain ⟨i, st, hi, hst, hst4, rfl, rfl, rfl, hB⟩ := hrel
    have HB := Aside0.mk hB
    clear hB
    by_cases hlt : i < n
    · obtain ⟨ad, rfl, c1, c2⟩ := (HP.out.below HB.out) i (by rw [← HN.out]; exact hlt)
      obtain ⟨p, hp⟩ : ∃ p, p = ps.getD i default := ⟨_, rfl⟩
      rw [← hp] at c1 c2
      clear hp
      obtain ⟨k, hk, ek⟩ := kind_range p.2
      have ck : ∀ w, Calls Tryd.prog 13 #[.int .u8 p.2] w fun e w' => e = .returned (.int .i64 (k : Int)) ∧ w = w' := fun w => by rw [← ek]; exact kind_calls _ w
      have CK := Aside0.mk ck
      have e1 := stepN_k st p.1 p.2 k ek
      have e2 := stepN_k (turnN st) (!p.1) p.2 k ek
      have ht := turn_lt st hst
      have n1 : ∀ W, Tabs W → Calls Tryd.prog 10 #[.int .i64 st, .bool p.1, .int .u8 p.2] W fun e w' => e = .returned (.tuple #[.int .i64 ((stepNK st p.1 k).1 : Nat), .bool (stepNK st p.1 k).2]) ∧ Drawn0 W w' := fun W hW => by rw [← e1]; exact next_any st hst p.1 p.2 W hW
      have n2 : ∀ W, Tabs W → Calls Tryd.prog 10 #[.int .i64 (turnN st : Nat), .bool (!p.1), .int .u8 p.2] W fun e w' => e = .returned (.tuple #[.int .i64 ((stepNK (turnN st) (!p.1) k).1 : Nat), .bool (stepNK (turnN st) (!p.1) k).2]) ∧ Drawn0 W w' := fun W hW => by rw [← e2]; exact next_any _ ht (!p.1) p.2 W hW
      by_cases hs : (st = 8 ∨ st = 9) ∧ k = 1
      · clear n1 n2 e1 e2 ck ek
        obtain ⟨hs1, rfl⟩ := hs
        rcases hs1 with rfl | rfl
        all_goals
          go_wp2_with (first
            | (go_at_call 13; (with_reducible refine (CK.out _).mono ?_); rintro e w' ⟨rfl, rfl⟩)
            | (go_at_call 12; (with_reducible refine (wakes_any _ (HT.out.below (by repeat (first | exact HB.out | apply below_alloc | apply pw_below_drewN))) (HO.out.below (by repeat (first | exact HB.out | apply below_alloc | apply pw_below_drewN)))).mono ?_); rintro e w1 ⟨rfl, hb⟩; have HB1 := Aside0.mk hb; clear hb))
          all_goals go_ret
          all_goals exact ⟨rfl, bel_trans (by repeat (first | exact HB.out | apply below_alloc | apply pw_below_drewN)) HB1.out⟩
      · obtain ⟨q1, q2, q3, q4⟩ := sides_all st hst hst4 p.1 k hk (fun a b => hs ⟨a, b⟩)
        rw [q2, ← q1] at n2
        have hk1 : ((st : Int) == 8) = true ∨ ((st : Int) == 8) = false ∧ ((st : Int) == 9) = true ∨ ((st : Int) == 8) = false ∧ ((st : Int) == 9) = false := by
          by_cases a : st = 8 <;> by_cases b : st = 9 <;> simp <;> omega
        have hk2 : ((st : Int) == 8) = true ∨ ((st : Int) == 9) = true → ((k : Int) == 1) = false := by
          intro h
          simp at h ⊢
          omega
        obtain ⟨q, hq⟩ : ∃ q, q = stepNK st p.1 k := ⟨_, rfl⟩
        rw [← hq] at n1 n2 q3 q4
        have N1 := Aside0.mk n1
        have N2 := Aside0.mk n2
        have tt := turned_any q.1
        have TT := Aside0.mk tt
        have h6 : ((i : Int) == 60) = true ∨ ((i : Int) == 60) = false := by cases h : ((i : Int) == 60) <;> simp
        clear n1 n2 e1 e2 ck ek q1 q2 hs tt hq
        rcases h6 with h6 | h6
        · go_wp2_with (first
            | (go_at_call 12; (with_reducible refine (wakes_any _ (HT.out.below (by repeat (first | exact HB.out | apply below_alloc | apply pw_below_drewN))) (HO.out.below (by repeat (first | exact HB.out | apply below_alloc | apply pw_below_drewN)))).mono ?_); rintro e w1 ⟨rfl, hb⟩; have HB1 := Aside0.mk hb; clear hb))
          all_goals go_ret
          all_goals exact ⟨rfl, bel_trans (by repeat (first | exact HB.out | apply below_alloc | apply pw_below_drewN)) HB1.out⟩
        · rcases hk1 with k8 | ⟨k8, k9⟩ | ⟨k8, k9⟩
          · have kk := hk2 (Or.inl k8)
            clear hk2
            go_wp2_with (first
              | (go_at_call 13; (with_reducible refine (CK.out _).mono ?_); rintro e w' ⟨rfl, rfl⟩)
              | (go_at_call 10; (with_reducible refine (N1.out _ (HT.out.below (by repeat (first | exact HB.out | apply below_alloc | apply pw_below_drewN)))).mono ?_); rintro e w' ⟨rfl, ⟨m, rfl⟩⟩)
              | (go_at_call 10; (with_reducible refine (N2.out _ (HT.out.below (by repeat (first | exact HB.out | apply below_alloc | apply pw_below_drewN)))).mono ?_); rintro e w' ⟨rfl, ⟨m, rfl⟩⟩)
              | (go_at_call 15; (with_reducible refine (TT.out _).mono ?_); rintro e w' ⟨rfl, rfl⟩))
            go_roundw
            case rel => exact ⟨i + 1, q.1, by omega, q4, q3, by go_num, rfl, rfl, by repeat (first | exact HB.out | apply below_alloc | apply pw_below_drewN)⟩
            case measure => simp [intOf]; omega
          · have kk := hk2 (Or.inr k9)
            clear hk2
            go_wp2_with (first
              | (go_at_call 13; (with_reducible refine (CK.out _).mono ?_); rintro e w' ⟨rfl, rfl⟩)
              | (go_at_call 10; (with_reducible refine (N1.out _ (HT.out.below (by repeat (first | exact HB.out | apply below_alloc | apply pw_below_drewN)))).mono ?_); rintro e w' ⟨rfl, ⟨m, rfl⟩⟩)
              | (go_at_call 10; (with_reducible refine (N2.out _ (HT.out.below (by repeat (first | exact HB.out | apply below_alloc | apply pw_below_drewN)))).mono ?_); rintro e w' ⟨rfl, ⟨m, rfl⟩⟩)
              | (go_at_call 15; (with_reducible refine (TT.out _).mono ?_); rintro e w' ⟨rfl, rfl⟩))
            go_roundw
            case rel => exact ⟨i + 1, q.1, by omega, q4, q3, by go_num, rfl, rfl, by repeat (first | exact HB.out | apply below_alloc | apply pw_below_drewN)⟩
            case measure => simp [intOf]; omega
          · clear hk2
            go_wp2_with (first
              | (go_at_call 13; (with_reducible refine (CK.out _).mono ?_); rintro e w' ⟨rfl, rfl⟩)
              | (go_at_call 10; (with_reducible refine (N1.out _ (HT.out.below (by repeat (first | exact HB.out | apply below_alloc | apply pw_below_drewN)))).mono ?_); rintro e w' ⟨rfl, ⟨m, rfl⟩⟩)
              | (go_at_call 10; (with_reducible refine (N2.out _ (HT.out.below (by repeat (first | exact HB.out | apply below_alloc | apply pw_below_drewN)))).mono ?_); rintro e w' ⟨rfl, ⟨m, rfl⟩⟩)
              | (go_at_call 15; (with_reducible refine (TT.out _).mono ?_); rintro e w' ⟨rfl, rfl⟩))
            go_roundw
            case rel => exact ⟨i + 1, q.1, by omega, q4, q3, by go_num, rfl, rfl, by repeat (first | exact HB.out | apply below_alloc | apply pw_below_drewN)⟩
            case measure => simp [intOf]; omega
    · go_wp2_with (go_at_call 12; (with_reducible refine (wakes_any _ (HT.out.below (by repeat (first | exact HB.out | apply below_alloc | apply pw_below_drewN))) (HO.out.below (by repeat (first | exact HB.out | apply below_alloc | apply pw_below_drewN)))).mono ?_); rintro e w1 ⟨rfl, hb⟩; have HB1 := Aside0.mk hb; clear hb)
      go_ret
      exact ⟨rfl, bel_trans (by repeat (first | exact HB.out | apply below_alloc | apply pw_below_drewN)) HB1.out⟩
end Go.Proofs.YtpheeljemkpnaaaDoor.AW
