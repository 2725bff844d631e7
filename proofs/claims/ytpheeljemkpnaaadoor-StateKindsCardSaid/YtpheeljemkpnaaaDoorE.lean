import Derived.Test.YtpheeljemkpnaaaDoorC
namespace Go.Proofs.YtpheeljemkpnaaaDoor.AW
open Go.BigFrame Go.RowKit Go.Proofs.YtpheeljemkpnaaaDoorW.PrintWords Go.Proofs.YtpheeljemkpnaaaDoorW.PrintLast Go.Proofs.YtpheeljemkpnaaaDoorW.PrintMore
set_option linter.unusedVariables false
set_option linter.unusedSimpArgs false
set_option maxRecDepth 100000

theorem kinds_all : ∀ n : Nat, n < 256 → kindOf (Go.bits .and .u8 n 23) = kindOf n ∧ kindOf (Go.bits .or .u8 n 232) = kindOf n := by decide +kernel
theorem kinds_same (f : Int) (h0 : 0 ≤ f) (h1 : f ≤ 255) : kindOf (Go.bits .and .u8 f 23) = kindOf f ∧ kindOf (Go.bits .or .u8 f 232) = kindOf f := by
  have := kinds_all f.toNat (by omega)
  rwa [Int.toNat_of_nonneg h0] at this

def good (i : Nat) : Bool := Go.bits .and .u8 i 8 == 0 && kindOf i != 0
def cnt (i : Nat) : Nat := (List.range i).countP good
theorem cnt_succ (i : Nat) : cnt (i + 1) = cnt i + if good i then 1 else 0 := by
  unfold cnt
  rw [List.range_succ, List.countP_append]
  by_cases h : good i <;> simp [h]
theorem cnt_32 : cnt 32 = 6 := by decide +kernel
theorem cnt_le (i : Nat) : cnt i ≤ i := by
  have := List.countP_le_length (p := good) (l := List.range i)
  simpa [cnt] using this

set_option maxHeartbeats 2000000 in
theorem kinds_law (f : Int) (h0 : 0 ≤ f) (h1 : f ≤ 255) (w : World) (hT : Tabs w) (hO : Opn w) :
    Calls Tryd.prog 6 #[.int .u8 f] w fun e w' => e = .returned (.bool true) ∧ Below w.heap.size w w' := by
  have HT := Aside0.mk hT
  have HO := Aside0.mk hO
  clear hT hO
  obtain ⟨e1, e2⟩ := kinds_same f h0 h1
  obtain ⟨k, hk, ek⟩ := kind_range f
  have hk1 : (k : Int) < 6 := by omega
  have c0 : ∀ w, Calls Tryd.prog 13 #[.int .u8 f] w fun e w' => e = .returned (.int .i64 (k : Int)) ∧ w = w' := fun w => by rw [← ek]; exact kind_calls f w
  have c1 : ∀ w, Calls Tryd.prog 13 #[.int .u8 (Go.bits .and .u8 f 23)] w fun e w' => e = .returned (.int .i64 (k : Int)) ∧ w = w' := fun w => by rw [← ek, ← e1]; exact kind_calls _ w
  have c2 : ∀ w, Calls Tryd.prog 13 #[.int .u8 (Go.bits .or .u8 f 232)] w fun e w' => e = .returned (.int .i64 (k : Int)) ∧ w = w' := fun w => by rw [← ek, ← e2]; exact kind_calls _ w
  have C0 := Aside0.mk c0
  have C1 := Aside0.mk c1
  have C2 := Aside0.mk c2
  have t1 : decide ((k : Int) < 0) = false := by simp
  have t2 : decide ((5 : Int) < k) = false := by simp; omega
  clear c0 c1 c2 e1 e2 ek h0 h1
  go_enter Tryd.func6, Tryd.ntmps6
  go_wp2_with (first
    | (go_at_call 13; (with_reducible refine (C0.out _).mono ?_); rintro e w' ⟨rfl, rfl⟩)
    | (go_at_call 13; (with_reducible refine (C1.out _).mono ?_); rintro e w' ⟨rfl, rfl⟩)
    | (go_at_call 13; (with_reducible refine (C2.out _).mono ?_); rintro e w' ⟨rfl, rfl⟩))
  go_loop [4, 28] (fun v4 v28 => ∃ i : Nat, i ≤ 32 ∧ v28 = .int .u8 i ∧ v4 = .int .i64 (cnt i : Nat)) (fun _ v28 => 32 - (intOf v28).toNat)
  case atStart => exact ⟨0, by omega, rfl, rfl⟩
  case round =>
    obtain ⟨i, hi, rfl, rfl⟩ := hrel
    have hc := cnt_le i
    by_cases hlt : i < 32
    · have hs := cnt_succ i
      obtain ⟨j, hj, ej⟩ := kind_range i
      unfold good at hs
      rw [ej] at hs
      have cj : ∀ w, Calls Tryd.prog 13 #[.int .u8 i] w fun e w' => e = .returned (.int .i64 (j : Int)) ∧ w = w' := fun w => by rw [← ej]; exact kind_calls i w
      have CJ := Aside0.mk cj
      have HS := Aside0.mk hs
      clear cj ej hs
      obtain ⟨ci, hci⟩ : ∃ ci, ci = cnt i := ⟨_, rfl⟩
      rw [← hci] at hc ⊢
      have HCI := Aside0.mk hci
      clear hci
      go_wp2_with (first
        | (go_at_call 13; (with_reducible refine (CJ.out _).mono ?_); rintro e w' ⟨rfl, rfl⟩))
      · rename_i a1 a2 a3 a4
        have e : cnt (i + 1) = ci + 1 := by rw [HS.out, ← HCI.out, if_pos (by simp [a2, a4])]
        go_round
        case rel => exact ⟨i + 1, by omega, by go_num, by rw [e]; go_num⟩
        case measure => simp [intOf]; omega
      · rename_i a1 a2 a3 a4
        have e : cnt (i + 1) = ci := by rw [HS.out, ← HCI.out, if_neg (by simp [a2, a4]), Nat.add_zero]
        go_round
        case rel => exact ⟨i + 1, by omega, by go_num, by rw [e]⟩
        case measure => simp [intOf]; omega
      · rename_i a0 a1 a2
        have e : cnt (i + 1) = ci := by rw [HS.out, ← HCI.out, if_neg (by simp [a2]), Nat.add_zero]
        go_round
        case rel => exact ⟨i + 1, by omega, by go_num, by rw [e]⟩
        case measure => simp [intOf]; omega
    · obtain rfl : i = 32 := by omega
      rw [cnt_32]
      go_wp2_with (first
        | (go_at_call 12; (with_reducible refine (wakes_any _ HT.out HO.out).mono ?_); rintro e w1 ⟨rfl, hb⟩; have HB1 := Aside0.mk hb; clear hb))
      go_ret
      exact ⟨rfl, HB1.out⟩
end Go.Proofs.YtpheeljemkpnaaaDoor.AW
