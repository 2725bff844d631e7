import Derived.Test.YtjdpoliamcnkbaaDoorBytes
namespace Go.Proofs.YtjdpoliamcnkbaaDoor.T
open Go.BigFrame Go.RowKit Go.Proofs.YtjdpoliamcnkbaaDoorW.PrintWords
set_option linter.unusedVariables false
set_option linter.unusedSimpArgs false
set_option maxRecDepth 100000

/-! tollref06.Sum: the same number -/
theorem fold16_more (t b : Int) (ht : 0 ≤ t) (h0 : 0 ≤ b) (h1 : b ≤ 65535) : fold16 (t + b) = if 65535 < fold16 t + b then fold16 t + b - 65535 else fold16 t + b := by
  unfold fold16
  by_cases e : t = 0
  · subst e
    simp only [if_true, Int.zero_add]
    split
    · split <;> omega
    · split <;> omega
  · rw [if_neg e, if_neg (by omega)]
    split <;> omega

set_option maxHeartbeats 2000000 in
theorem refsum_any (xs : List Int) (A : Option Addr) (n c : Nat) (w : World) (hn : n = xs.length) (hb : Bytes xs) (hx : ReadsInt w .u8 A n xs) (hl : n ≤ 140737488351232) :
    Calls Tryd.prog 28 #[.slice A n c] w fun e w' => e = .returned (.int .u16 (sumN xs)) ∧ w = w' := by
  have HX := Aside0.mk hx
  have HB := Aside0.mk hb
  have HN := Aside0.mk hn
  clear hx hb hn
  go_enter Tryd.func28, Tryd.ntmps28
  go_wp2
  go_loop [3, 4] (fun v3 v4 => ∃ i : Nat, i ≤ n + 1 ∧ i % 2 = 0 ∧ v4 = .int .i64 i ∧ v3 = .int .i64 (fold16 (wt xs (min i n)))) (fun _ v4 => n + 1 - (intOf v4).toNat)
  case atStart => exact ⟨0, by omega, by omega, rfl, by rw [Nat.zero_min]; rfl⟩
  case round =>
    obtain ⟨i, hi, hp, rfl, rfl⟩ := hrel
    have hw := wt_range HB.out (min i n)
    by_cases hlt : i < n
    · obtain ⟨ab, ao, rfl, hcell⟩ := reads_plain HX.out (by omega)
      have hc := hcell i hlt
      obtain ⟨d0, d1⟩ := HB.out.getD i
      have e : wt xs (i + 1) = wt xs i + 256 * xs.getD i 0 := by show wt xs i + (if i % 2 = 0 then _ else _) = _; rw [if_pos hp]
      rw [Nat.min_eq_left (by omega)] at hw ⊢
      by_cases h2 : i + 1 < n
      · have hc2 := hcell (i + 1) h2
        clear hcell
        obtain ⟨g0, g1⟩ := HB.out.getD (i + 1)
        have e2 : wt xs (i + 2) = wt xs (i + 1) + xs.getD (i + 1) 0 := by show wt xs (i + 1) + (if (i + 1) % 2 = 0 then _ else _) = _; rw [if_neg (by omega)]
        have hm : min (i + 2) n = i + 2 := by omega
        generalize xs.getD (i + 1) 0 = y at hc2 g0 g1 e2
        generalize xs.getD i 0 = x at hc d0 d1 e
        have hf := fold16_more (wt xs i) (256 * x + y) hw.1 (by omega) (by omega)
        have E := Aside0.mk (show fold16 (wt xs (min (i + 2) n)) = fold16 (wt xs i + (256 * x + y)) by rw [hm, e2, e, Int.add_assoc])
        have hr := fold16_range _ hw.1
        generalize fold16 (wt xs i) = t at hf hr ⊢
        clear e e2 hm hw
        obtain ⟨r0, r1⟩ := hr
        by_cases hbig : 65535 < t + (256 * x + y)
        · rw [if_pos hbig] at hf
          have HF := Aside0.mk hf
          clear hf
          go_wp2
          go_round
          case rel => exact ⟨i + 2, by omega, by omega, by go_num, by rw [E.out, HF.out]⟩
          case measure => simp [intOf]; omega
        · rw [if_neg hbig] at hf
          have HF := Aside0.mk hf
          clear hf
          go_wp2
          go_round
          case rel => exact ⟨i + 2, by omega, by omega, by go_num, by rw [E.out, HF.out]⟩
          case measure => simp [intOf]; omega
      · have hm : min (i + 2) n = i + 1 := by omega
        generalize xs.getD i 0 = x at hc d0 d1 e
        have hf := fold16_more (wt xs i) (256 * x) hw.1 (by omega) (by omega)
        have E := Aside0.mk (show fold16 (wt xs (min (i + 2) n)) = fold16 (wt xs i + 256 * x) by rw [hm, e])
        have hr := fold16_range _ hw.1
        generalize fold16 (wt xs i) = t at hf hr ⊢
        clear e hm hw hcell
        obtain ⟨r0, r1⟩ := hr
        by_cases hbig : 65535 < t + 256 * x
        · rw [if_pos hbig] at hf
          have HF := Aside0.mk hf
          clear hf
          go_wp2
          go_round
          case rel => exact ⟨i + 2, by omega, by omega, by go_num, by rw [E.out, HF.out]⟩
          case measure => simp [intOf]; omega
        · rw [if_neg hbig] at hf
          have HF := Aside0.mk hf
          clear hf
          go_wp2
          go_round
          case rel => exact ⟨i + 2, by omega, by omega, by go_num, by rw [E.out, HF.out]⟩
          case measure => simp [intOf]; omega
    · have hm : min i n = n := by omega
      rw [hm] at hw ⊢
      have HS := Aside0.mk (show 65535 - fold16 (wt xs n) = sumN xs by unfold sumN; rw [HN.out])
      have hr := fold16_range _ hw.1
      generalize fold16 (wt xs n) = t at hr HS ⊢
      clear hw hm
      obtain ⟨r0, r1⟩ := hr
      go_wp2
      go_ret
      exact ⟨by rw [← HS.out]; first | rfl | (simp; omega), rfl⟩
end Go.Proofs.YtjdpoliamcnkbaaDoor.T
