import Derived.Test.YtjdpoliamcnkbaaDoorRefSum
import Derived.Test.YtjdpoliamcnkbaaDoorIcmpGet
import Derived.RegionTactic
import Derived.ChangeAlike
import Derived.LoopTactic
namespace Go.Proofs.YtjdpoliamcnkbaaDoor.T
open Go.BigFrame Go.RowKit Go.Proofs.YtjdpoliamcnkbaaDoorW.PrintWords
set_option linter.unusedVariables false
set_option linter.unusedSimpArgs false
set_option maxRecDepth 100000

set_option maxHeartbeats 1000000 in
theorem rget_short (A : Option Addr) (n c : Nat) (w : World) (h : n < 8) :
    Calls Tryd.prog 13 #[.slice A n c] w fun e w' => e = .returned (.tuple #[.agg #[.int .u8 0, .int .u8 0, .int .u8 0, .int .u8 0, .int .u8 0, .int .u8 0, .slice none 0 0], .int .i64 4]) ∧ Bel w w' := by
  go_enter Tryd.func13, Tryd.ntmps13
  go_wp2
  exact bodyPost_ret (v := .tuple #[.agg #[.int .u8 0, .int .u8 0, .int .u8 0, .int .u8 0, .int .u8 0, .int .u8 0, .slice none 0 0], .int .i64 4]) (by simp [results, Tryd.results13, go_sem]) rfl ⟨rfl, (Bel.refl w).alloc _⟩

set_option maxHeartbeats 1000000 in
theorem rget_sum (A : Option Addr) (n c : Nat) (xs : List Int) (w : World) (h : 8 ≤ n) (hx : ReadsInt w .u8 A n xs) (hb : Bytes xs) (hl : n ≤ 140737488351232) (hs : sumN xs ≠ 0) :
    Calls Tryd.prog 13 #[.slice A n c] w fun e w' => e = .returned (.tuple #[.agg #[.int .u8 0, .int .u8 0, .int .u8 0, .int .u8 0, .int .u8 0, .int .u8 0, .slice none 0 0], .int .i64 21]) ∧ Bel w w' := by
  have hq : (sumN xs != 0) = true := by simpa using hs
  have HS := Aside0.mk (fun W (hW : Bel w W) => refsum_any xs A n c W (reads_len hx).symm hb (hW.reads hx) hl)
  generalize sumN xs = s at hq HS
  clear hs hx
  go_enter Tryd.func13, Tryd.ntmps13
  go_wp2_with (first
    | (go_at_call 28; (with_reducible refine (HS.out _ (by repeat (first | assumption | exact Bel.refl _ | apply Bel.drewN | apply Bel.alloc))).mono ?_); rintro e w' ⟨rfl, rfl⟩))
  exact bodyPost_ret (v := .tuple #[.agg #[.int .u8 0, .int .u8 0, .int .u8 0, .int .u8 0, .int .u8 0, .int .u8 0, .slice none 0 0], .int .i64 21]) (by simp [results, Tryd.results13, go_sem]) rfl ⟨rfl, (Bel.refl w).alloc _⟩

set_option maxHeartbeats 2000000 in
theorem rget_ok (A : Option Addr) (n c : Nat) (xs : List Int) (w : World) (h : 8 ≤ n) (hc : n ≤ c) (hx : ReadsInt w .u8 A n xs) (hb : Bytes xs) (hl : n ≤ 140737488351232) (hs : sumN xs = 0) :
    Calls Tryd.prog 13 #[.slice A n c] w fun e w' => ∃ A', e = .returned (.tuple #[.agg #[.int .u8 (xs.getD 0 0), .int .u8 (xs.getD 1 0), .int .u8 (xs.getD 4 0), .int .u8 (xs.getD 5 0), .int .u8 (xs.getD 6 0), .int .u8 (xs.getD 7 0), .slice A' (n - 8) (c - 8)], .int .i64 0]) ∧ ReadsInt w .u8 A' (n - 8) (xs.drop 8) ∧ Bel w w' := by
  obtain ⟨ab, ao, rfl, hcell⟩ := reads_plain hx (by omega)
  have c0 := hcell 0 (by omega)
  rw [Nat.add_zero] at c0
  have c1 := hcell 1 (by omega)
  have c4 := hcell 4 (by omega)
  have c5 := hcell 5 (by omega)
  have c6 := hcell 6 (by omega)
  have c7 := hcell 7 (by omega)
  have HS := Aside0.mk (fun W (hW : Bel w W) => by have := refsum_any xs (some ⟨ab, ao, none⟩) n c W (reads_len hx).symm hb (hW.reads hx) hl; rw [hs] at this; exact this)
  obtain ⟨ad, hat, had⟩ : ∃ ad : Addr, (if (c : Int) - 8 = 0 then (⟨ab, ao, none⟩ : Addr) else ⟨ab, ao + 8, none⟩) = ad ∧ ReadsInt w .u8 (some ad) (n - 8) (xs.drop 8) := by
    have hd := hx.drop_ 8 h hc
    by_cases h8 : c = 8
    · rw [if_pos h8] at hd; exact ⟨_, by rw [if_pos (by omega)], hd⟩
    · rw [if_neg h8] at hd; exact ⟨⟨ab, ao + 8, none⟩, by rw [if_neg (by omega)], hd⟩
  have HXD := Aside0.mk had
  generalize xs.getD 0 0 = x0 at c0 ⊢
  generalize xs.getD 1 0 = x1 at c1 ⊢
  generalize xs.getD 4 0 = x4 at c4 ⊢
  generalize xs.getD 5 0 = x5 at c5 ⊢
  generalize xs.getD 6 0 = x6 at c6 ⊢
  generalize xs.getD 7 0 = x7 at c7 ⊢
  have i0 : 0 < n := by omega
  have i1 : (1 : Int) < (n : Int) := by omega
  have i8 : (8 : Int) ≤ (n : Int) := by omega
  have ic : (n : Int) ≤ (c : Int) := by omega
  have lt := World.block_lt_of_cell? w _ c0
  simp only at lt
  clear hx hcell hs had
  go_enter Tryd.func13, Tryd.ntmps13
  go_wp2_with (first
    | (go_at_call 28; (with_reducible refine (HS.out _ (by repeat (first | assumption | exact Bel.refl _ | apply Bel.drewN | apply Bel.alloc))).mono ?_); rintro e w' ⟨rfl, rfl⟩))
  obtain ⟨W, hW⟩ : ∃ W, W = w.alloc (.cells #[.int .u8 0, .int .u8 0, .int .u8 0, .int .u8 0, .int .u8 0, .int .u8 0, .slice none 0 0] 34) := ⟨_, rfl⟩
  obtain ⟨R, hR⟩ : ∃ R, R = w.heap.size := ⟨_, rfl⟩
  have hB : Bel w W := by rw [hW]; exact (Bel.refl w).alloc _
  have hsz : W.heap.size = R + 1 := by rw [hW, hR]; simp
  have d0 := hB.cell c0
  have d1 := hB.cell c1
  rw [← hW, ← hR]
  have labR : ab < R + 1 := by rw [hR]; omega
  have nab : ¬ ab = R := by rw [hR]; omega
  have nab' : ¬ R = ab := by rw [hR]; omega
  have nab1 : ¬ ab = R + 1 := by rw [hR]; omega
  have nab1' : ¬ R + 1 = ab := by rw [hR]; omega
  have HBW := Aside0.mk hB
  have HR := Aside0.mk hR
  have HC := Aside0.mk (And.intro c4 (And.intro c5 (And.intro c6 c7)))
  have q : ∀ i, i < 6 → W.cell? ⟨R, i, none⟩ = some (.int .u8 0) := by
    intro i hi
    rw [hW, hR]
    rcases i with _ | _ | _ | _ | _ | _ | i <;> first | omega | go_simp
  have q6 : W.cell? ⟨R, 6, none⟩ = some (.slice none 0 0) := by rw [hW, hR]; go_simp
  have qf : ∀ i, W.frozen? ⟨R, i, none⟩ = false := by intro i; rw [hW, hR]; go_simp
  have Q := Aside0.mk q
  have Q6 := Aside0.mk q6
  have QF := Aside0.mk qf
  clear q6 qf
  clear hW hB hR c0 c1 c4 c5 c6 c7 HS q
  go_cut [0, 4] (fun v0 v4 wc => v0 = .slice (some ⟨ab, ao, none⟩) n c ∧ v4 = .pointer (some ⟨R + 1, 0, none⟩) ∧ Aside0 (Bel W wc) ∧ Aside0 (∀ i, wc.frozen? ⟨R + 1, i, none⟩ = false) ∧ wc.cell? ⟨R + 1, 0, none⟩ = some (.int .u8 x0) ∧ wc.cell? ⟨R + 1, 1, none⟩ = some (.int .u8 x1) ∧ wc.cell? ⟨R + 1, 2, none⟩ = some (.int .u8 0) ∧ wc.cell? ⟨R + 1, 3, none⟩ = some (.int .u8 0) ∧ wc.cell? ⟨R + 1, 4, none⟩ = some (.int .u8 0) ∧ wc.cell? ⟨R + 1, 5, none⟩ = some (.int .u8 0) ∧ wc.cell? ⟨R + 1, 6, none⟩ = some (.slice (some ad) (n - 8) (c - 8)))
  case first =>
    by_cases h8 : c = 8
    · have ha : ad = ⟨ab, ao, none⟩ := by rw [← hat, if_pos (by omega)]
      go_region
      all_goals (go_wp2; go_meet)
      all_goals (case rel => exact ⟨by rw [h8], rfl, ⟨by repeat (first | exact Bel.refl _ | apply Bel.drew | apply Bel.alloc)⟩, ⟨fun i => by rw [← hsz]; go_simp⟩, by rw [← hsz]; go_simp, by rw [← hsz]; go_simp, by rw [← hsz]; go_simp, by rw [← hsz]; go_simp, by rw [← hsz]; go_simp, by rw [← hsz]; go_simp, by rw [← hsz, ha, h8]; go_simp⟩)
    · have ha : ad = ⟨ab, ao + 8, none⟩ := by rw [← hat, if_neg (by omega)]
      go_region
      all_goals (go_wp2; go_meet)
      all_goals (case rel => exact ⟨rfl, rfl, ⟨by repeat (first | exact Bel.refl _ | apply Bel.drew | apply Bel.alloc)⟩, ⟨fun i => by rw [← hsz]; go_simp⟩, by rw [← hsz]; go_simp, by rw [← hsz]; go_simp, by rw [← hsz]; go_simp, by rw [← hsz]; go_simp, by rw [← hsz]; go_simp, by rw [← hsz]; go_simp, by rw [← hsz, ha]; go_simp⟩)
  case rest =>
    obtain ⟨rfl, rfl, HBc, HFc, e0, e1, e2, e3, e4, e5, e6⟩ := hcut
    clear hat d0 d1
    go_wp2
    go_loopw [5] (fun v5 wl => ∃ (i : Nat) (r0 r1 r2 r3 : Int), i ≤ 4 ∧ v5 = .int .i64 i ∧ Aside0 (Bel W wl) ∧ Aside0 (∀ i, wl.frozen? ⟨R + 1, i, none⟩ = false) ∧ wl.cell? ⟨R + 1, 0, none⟩ = some (.int .u8 x0) ∧ wl.cell? ⟨R + 1, 1, none⟩ = some (.int .u8 x1) ∧ wl.cell? ⟨R + 1, 2, none⟩ = some (.int .u8 r0) ∧ wl.cell? ⟨R + 1, 3, none⟩ = some (.int .u8 r1) ∧ wl.cell? ⟨R + 1, 4, none⟩ = some (.int .u8 r2) ∧ wl.cell? ⟨R + 1, 5, none⟩ = some (.int .u8 r3) ∧ wl.cell? ⟨R + 1, 6, none⟩ = some (.slice (some ad) (n - 8) (c - 8)) ∧ (0 < i → r0 = x4) ∧ (1 < i → r1 = x5) ∧ (2 < i → r2 = x6) ∧ (3 < i → r3 = x7)) (fun v5 _ => 4 - (intOf v5).toNat)
    case atStart => exact ⟨0, 0, 0, 0, 0, by omega, rfl, HBc, HFc, e0, e1, e2, e3, e4, e5, e6, by omega, by omega, by omega, by omega⟩
    case round =>
      obtain ⟨i, r0, r1, r2, r3, hi, rfl, HBl, HFl, g0, g1, g2, g3, g4, g5, g6, k0, k1, k2, k3⟩ := hrel
      have hBl : Bel w _ := HBW.out.trans HBl.out
      obtain ⟨c4, c5, c6, c7⟩ := HC.out
      have d4 := hBl.cell c4
      have d5 := hBl.cell c5
      have d6 := hBl.cell c6
      have d7 := hBl.cell c7
      have f2 := HFl.out 2
      have f3 := HFl.out 3
      have f4 := HFl.out 4
      have f5 := HFl.out 5
      have j4 : (4 : Int) < (n : Int) := by omega
      have j5 : (5 : Int) < (n : Int) := by omega
      have j6 : (6 : Int) < (n : Int) := by omega
      have j7 : (7 : Int) < (n : Int) := by omega
      have hw2 : W.heap.size ≤ R + 1 := Nat.le_of_eq hsz
      have HB0 := Aside0.mk hBl
      clear c4 c5 c6 c7 hBl
      obtain rfl | rfl | rfl | rfl | rfl : i = 0 ∨ i = 1 ∨ i = 2 ∨ i = 3 ∨ i = 4 := by omega
      · go_wp2
        go_roundw
        case rel => exact ⟨1, x4, r1, r2, r3, by omega, rfl, ⟨Bel.setCell HBl.out hw2 _⟩, ⟨fun j => by rw [World.frozen?_setCell]; exact HFl.out j⟩, by go_cell, by go_cell, by go_cell, by go_cell, by go_cell, by go_cell, by go_cell, fun _ => rfl, by omega, by omega, by omega⟩
        case measure => simp [intOf]
      · go_wp2
        go_roundw
        case rel => exact ⟨2, r0, x5, r2, r3, by omega, rfl, ⟨Bel.setCell HBl.out hw2 _⟩, ⟨fun j => by rw [World.frozen?_setCell]; exact HFl.out j⟩, by go_cell, by go_cell, by go_cell, by go_cell, by go_cell, by go_cell, by go_cell, fun _ => k0 (by omega), fun _ => rfl, by omega, by omega⟩
        case measure => simp [intOf]
      · go_wp2
        go_roundw
        case rel => exact ⟨3, r0, r1, x6, r3, by omega, rfl, ⟨Bel.setCell HBl.out hw2 _⟩, ⟨fun j => by rw [World.frozen?_setCell]; exact HFl.out j⟩, by go_cell, by go_cell, by go_cell, by go_cell, by go_cell, by go_cell, by go_cell, fun _ => k0 (by omega), fun _ => k1 (by omega), fun _ => rfl, by omega⟩
        case measure => simp [intOf]
      · go_wp2
        go_roundw
        case rel => exact ⟨4, r0, r1, r2, x7, by omega, rfl, ⟨Bel.setCell HBl.out hw2 _⟩, ⟨fun j => by rw [World.frozen?_setCell]; exact HFl.out j⟩, by go_cell, by go_cell, by go_cell, by go_cell, by go_cell, by go_cell, by go_cell, fun _ => k0 (by omega), fun _ => k1 (by omega), fun _ => k2 (by omega), fun _ => rfl⟩
        case measure => simp [intOf]
      · obtain rfl := k0 (by omega)
        obtain rfl := k1 (by omega)
        obtain rfl := k2 (by omega)
        obtain rfl := k3 (by omega)
        obtain ⟨hcc0, hff0, hzz0⟩ := HBl.out.rules
        have lR : R < W.heap.size := by omega
        have p0 := (hcc0 R 0 lR).trans (Q.out 0 (by omega))
        have p1 := (hcc0 R 1 lR).trans (Q.out 1 (by omega))
        have p2 := (hcc0 R 2 lR).trans (Q.out 2 (by omega))
        have p3 := (hcc0 R 3 lR).trans (Q.out 3 (by omega))
        have p4 := (hcc0 R 4 lR).trans (Q.out 4 (by omega))
        have p5 := (hcc0 R 5 lR).trans (Q.out 5 (by omega))
        have p6 := (hcc0 R 6 lR).trans Q6.out
        have t0 := (hff0 R 0 lR).trans (QF.out 0)
        have t1 := (hff0 R 1 lR).trans (QF.out 1)
        have t2 := (hff0 R 2 lR).trans (QF.out 2)
        have t3 := (hff0 R 3 lR).trans (QF.out 3)
        have t4 := (hff0 R 4 lR).trans (QF.out 4)
        have t5 := (hff0 R 5 lR).trans (QF.out 5)
        have t6 := (hff0 R 6 lR).trans (QF.out 6)
        have HK := Aside0.mk (And.intro hcc0 hff0)
        clear hcc0 hff0
        go_wp2
        refine bodyPost_ret (v := .tuple #[.agg #[.int .u8 x0, .int .u8 x1, .int .u8 r0, .int .u8 r1, .int .u8 r2, .int .u8 r3, .slice (some ad) (n - 8) (c - 8)], .int .i64 0]) ?res rfl ⟨_, rfl, HXD.out, ?bel⟩
        case res =>
          simp [results, Tryd.results13, go_sem, cell_set, p0, p1, p2, p3, p4, p5, p6]
        case bel => 
          have hr : w.heap.size ≤ R := Nat.le_of_eq HR.out.symm
          exact Bel.setCell (Bel.setCell (Bel.setCell (Bel.setCell (Bel.setCell (Bel.setCell (Bel.setCell HB0.out hr _) hr _) hr _) hr _) hr _) hr _) hr _
end Go.Proofs.YtjdpoliamcnkbaaDoor.T
