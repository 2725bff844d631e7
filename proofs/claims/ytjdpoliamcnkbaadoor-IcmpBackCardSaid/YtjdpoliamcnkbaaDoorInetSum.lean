import Derived.Test.YtjdpoliamcnkbaaDoorProg
import Derived.Test.YtjdpoliamcnkbaaDoorWWords
import Derived.Test.YtjdpoliamcnkbaaDoorWLast
import Derived.Below
import Derived.OwnWalk
import Derived.WalkKit
import Derived.KernelRfl
import Derived.Deep.LoopGhost
import Derived.Deep.QuietTactic
import Derived.BigQuiet
import Derived.Deep.DeepCutAuto
import Derived.Deep.CutBlock
import Derived.Laws.BitsLemmas
import Derived.IntWalk
import Derived.Laws.BitsAllLaws
namespace Go.Proofs.YtjdpoliamcnkbaaDoor.T
open Go.BigFrame Go.RowKit Go.Proofs.YtjdpoliamcnkbaaDoorW.PrintWords
set_option linter.unusedVariables false
set_option linter.unusedSimpArgs false
set_option maxRecDepth 100000

/-! inet.Sum -/
/-- The sum of the first i bytes, by words. -/
def wt (xs : List Int) : Nat → Int
  | 0 => 0
  | i + 1 => wt xs i + (if i % 2 = 0 then 256 * xs.getD i 0 else xs.getD i 0)
def Bytes (xs : List Int) : Prop := ∀ x ∈ xs, 0 ≤ x ∧ x ≤ 255
theorem Bytes.getD {xs : List Int} (h : Bytes xs) (i : Nat) : 0 ≤ xs.getD i 0 ∧ xs.getD i 0 ≤ 255 := by
  by_cases hi : i < xs.length
  · rw [List.getD_eq_getElem?_getD, List.getElem?_eq_getElem hi]
    exact h _ (List.getElem_mem hi)
  · rw [List.getD_eq_getElem?_getD, List.getElem?_eq_none (by omega)]
    simp
theorem wt_range {xs : List Int} (h : Bytes xs) : ∀ i, 0 ≤ wt xs i ∧ wt xs i ≤ 65280 * (i : Int)
  | 0 => by simp [wt]
  | i + 1 => by
    obtain ⟨a, b⟩ := wt_range h i
    obtain ⟨c, d⟩ := h.getD i
    unfold wt
    split <;> constructor <;> omega
/-- A number brought to two bytes, carries added at the end. -/
def fold16 (n : Int) : Int := if n = 0 then 0 else (n - 1) % 65535 + 1
theorem fold16_small (n : Int) (h0 : 0 ≤ n) (h : n ≤ 65535) : fold16 n = n := by
  unfold fold16
  split
  · omega
  · omega
theorem fold16_step (n : Int) (h : 65535 < n) : fold16 (n % 65536 + n / 65536) = fold16 n := by
  unfold fold16
  rw [if_neg (by omega), if_neg (by omega)]
  omega
theorem fold16_range (n : Int) (h : 0 ≤ n) : 0 ≤ fold16 n ∧ fold16 n ≤ 65535 := by
  unfold fold16
  split <;> omega
/-- inet.Sum's answer. -/
def sumN (xs : List Int) : Int := 65535 - fold16 (wt xs xs.length)
theorem sumN_range {xs : List Int} (h : Bytes xs) : 0 ≤ sumN xs ∧ sumN xs ≤ 65535 := by
  unfold sumN
  have := fold16_range _ (wt_range h xs.length).1
  omega
theorem u64_mask16 (x : Int) (h0 : 0 ≤ x) (h1 : x < 18446744073709551616) : bits .and .u64 x 65535 = x % 65536 :=
  bits_mask .u64 64 (by decide) (fun n a b => by simp [IntKind.wrap, IntKind.bits, IntKind.signed]; omega) 16 (by decide) x h0 h1
theorem nat_not16 (m : Nat) (h : m < 65536) : 65535 ^^^ m = 65535 - m := by
  have e : 65535 - m = 2 ^ 16 - (m + 1) := by omega
  rw [e]
  refine Nat.eq_of_testBit_eq fun i => ?_
  rw [Nat.testBit_xor, Nat.testBit_two_pow_sub_succ (by omega), show (65535 : Nat) = 2 ^ 16 - 1 by decide, Nat.testBit_two_pow_sub_one]
  by_cases hi : i < 16
  · simp [hi]
  · have : m.testBit i = false := Nat.testBit_lt_two_pow (Nat.lt_of_lt_of_le h (by rw [show 65536 = 2 ^ 16 by decide]; exact Nat.pow_le_pow_right (by decide) (by omega)))
    simp [hi, this]
theorem u16_not (x : Int) (h0 : 0 ≤ x) (h1 : x ≤ 65535) : bits .xor .u16 IntKind.u16.max x = 65535 - x := by
  have hm : IntKind.u16.max = 65535 := by decide
  rw [hm, u16_xor 65535 x (by omega) (by omega) h0 (by omega)]
  have := nat_not16 x.toNat (by omega)
  rw [show (65535 : Int).toNat = 65535 by decide, this]
  omega

set_option maxHeartbeats 2000000 in
theorem sum_any (xs : List Int) (A : Option Addr) (n c : Nat) (w : World) (hn : n = xs.length) (hb : Bytes xs) (hx : ReadsInt w .u8 A n xs) (hl : n ≤ 140737488351232) :
    Calls Tryd.prog 26 #[.slice A n c] w fun e w' => e = .returned (.int .u16 (sumN xs)) ∧ w = w' := by
  have HX := Aside0.mk hx
  have HB := Aside0.mk hb
  have HN := Aside0.mk hn
  clear hx hb hn
  go_enter Tryd.func26, Tryd.ntmps26
  go_wp2
  go_loop [3, 8] (fun v3 v8 => ∃ i : Nat, i ≤ n ∧ v8 = .int .i64 i ∧ v3 = .int .u64 (wt xs i)) (fun _ v8 => n - (intOf v8).toNat)
  case atStart => exact ⟨0, by omega, rfl, rfl⟩
  case round =>
    obtain ⟨i, hi, rfl, rfl⟩ := hrel
    have hw := wt_range HB.out i
    by_cases hlt : i < n
    · obtain ⟨ad, rfl, hc⟩ := HX.out.at_ i (by omega) (by omega)
      obtain ⟨d0, d1⟩ := HB.out.getD i
      have e : wt xs (i + 1) = wt xs i + (if i % 2 = 0 then 256 * xs.getD i 0 else xs.getD i 0) := rfl
      have hrd : rd xs (i : Int) = xs.getD i 0 := by simp [rd]
      rw [hrd, Int.toNat_natCast] at hc
      generalize xs.getD i 0 = x at hc d0 d1 e
      generalize wt xs i = t at hw e ⊢
      have E := Aside0.mk e
      clear e hrd
      obtain ⟨hw0, hw1⟩ := hw
      have hbig : t < 9223372036854775808 - 65536 := by omega
      by_cases hp : i % 2 = 0
      · have hp' : ((i : Int) % 2 == 0) = true := by simp; omega
        rw [if_pos hp] at E
        go_wp2
        go_round
        case rel => exact ⟨i + 1, by omega, by go_num, by rw [E.out]; first | rfl | (congr 1; omega)⟩
        case measure => simp [intOf]; omega
      · have hp' : ((i : Int) % 2 == 0) = false := by simp; omega
        rw [if_neg hp] at E
        go_wp2
        go_round
        case rel => exact ⟨i + 1, by omega, by go_num, by rw [E.out]⟩
        case measure => simp [intOf]; omega
    · obtain rfl : i = n := by omega
      obtain ⟨t, ht⟩ : ∃ t, t = wt xs i := ⟨_, rfl⟩
      rw [← ht] at hw ⊢
      have HT : Aside0 (65535 - fold16 t = sumN xs) := ⟨by unfold sumN; rw [ht, HN.out]⟩
      obtain ⟨hw0, hw1⟩ := hw
      have hbig : t < 9223372036854775808 := by omega
      clear hw1 ht hlt hi
      go_wp2
      go_loop [3] (fun v3 => ∃ m : Int, 0 ≤ m ∧ m < 9223372036854775808 ∧ v3 = .int .u64 m ∧ Aside0 (fold16 m = fold16 t)) (fun v3 => (intOf v3).toNat)
      case atStart => exact ⟨t, hw0, hbig, rfl, ⟨rfl⟩⟩
      case round =>
        obtain ⟨m, m0, m1, rfl, HM⟩ := hrel
        by_cases hm : 65535 < m
        · have hk := u64_mask16 m m0 (by omega)
          have hs := fold16_step m hm
          have HS := Aside0.mk hs
          clear hs
          go_wp2
          go_round
          case rel => exact ⟨m % 65536 + m / 65536, by omega, by omega, by first | rfl | (simp; done), ⟨by rw [HS.out, HM.out]⟩⟩
          case measure => simp [intOf]; omega
        · have hf := fold16_small m m0 (by omega)
          have hnot := u16_not m m0 (by omega)
          have e : 65535 - m = sumN xs := by rw [← HT.out, ← HM.out, hf]
          have E := Aside0.mk e
          clear e hf
          go_wp2
          go_ret
          exact ⟨by rw [← E.out]; first | rfl | simp, rfl⟩
end Go.Proofs.YtjdpoliamcnkbaaDoor.T
