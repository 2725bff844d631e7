import Derived.Test.YtjdpoliamcnkbaaDoorBytes
import Derived.Test.YtjdpoliamcnkbaaDoorIcmpKind
import Derived.OpenShut
namespace Go.Proofs.YtjdpoliamcnkbaaDoor.T
open Go.BigFrame Go.RowKit Go.Proofs.YtjdpoliamcnkbaaDoorW.PrintWords
set_option linter.unusedVariables false
set_option linter.unusedSimpArgs false
set_option maxRecDepth 100000

set_option maxHeartbeats 1000000 in
theorem get_short (A : Option Addr) (n c : Nat) (w : World) (h : n < 8) :
    Calls Tryd.prog 12 #[.slice A n c] w fun e w' => e = .returned (.tuple #[.agg #[.int .u8 0, .int .u8 0, .int .u8 0, .int .u8 0, .int .u8 0, .int .u8 0, .slice none 0 0], .int .i64 4]) ∧ Bel w w' := by
  go_enter Tryd.func12, Tryd.ntmps12
  go_wp2
  exact bodyPost_ret (v := .tuple #[.agg #[.int .u8 0, .int .u8 0, .int .u8 0, .int .u8 0, .int .u8 0, .int .u8 0, .slice none 0 0], .int .i64 4]) (by simp [results, Tryd.results12, go_sem]) rfl ⟨rfl, (Bel.refl w).alloc _⟩

set_option maxHeartbeats 1000000 in
theorem get_sum (A : Option Addr) (n c : Nat) (xs : List Int) (w : World) (h : 8 ≤ n) (hx : ReadsInt w .u8 A n xs) (hb : Bytes xs) (hl : n ≤ 140737488351232) (hs : sumN xs ≠ 0) :
    Calls Tryd.prog 12 #[.slice A n c] w fun e w' => e = .returned (.tuple #[.agg #[.int .u8 0, .int .u8 0, .int .u8 0, .int .u8 0, .int .u8 0, .int .u8 0, .slice none 0 0], .int .i64 21]) ∧ Bel w w' := by
  have hq : (sumN xs != 0) = true := by simpa using hs
  have HS := Aside0.mk (fun W (hW : Bel w W) => sum_any xs A n c W (reads_len hx).symm hb (hW.reads hx) hl)
  generalize sumN xs = s at hq HS
  clear hs hx
  go_enter Tryd.func12, Tryd.ntmps12
  go_wp2_with (first
    | (go_at_call 26; (with_reducible refine (HS.out _ (by repeat (first | assumption | exact Bel.refl _ | apply Bel.drewN | apply Bel.alloc))).mono ?_); rintro e w' ⟨rfl, rfl⟩))
  exact bodyPost_ret (v := .tuple #[.agg #[.int .u8 0, .int .u8 0, .int .u8 0, .int .u8 0, .int .u8 0, .int .u8 0, .slice none 0 0], .int .i64 21]) (by simp [results, Tryd.results12, go_sem]) rfl ⟨rfl, (Bel.refl w).alloc _⟩

/-- A cell below an own row's base may be set. -/
theorem own_setLow {w : World} {base : Nat} {e : TypeId} {size n : Nat} {v : Value} {xs : List Value} (h : w.ownsRow base e size v n xs) {p : Addr} (hp : p.block < base) (u : Value) : (w.setCell p u).ownsRow base e size v n xs := by
  refine own_setCell h ?_ u
  rcases h.2 with h2 | ⟨g, cap, cur, rfl, hg, hh, r⟩
  · rw [h2.1]; simp [Value.ownBlock]
  · simp only [Value.ownBlock, Option.map_some, ne_eq, Option.some.injEq]; omega

set_option maxHeartbeats 2000000 in
theorem get_ok (A : Option Addr) (n c : Nat) (xs : List Int) (w : World) (h : 8 ≤ n) (hc : n ≤ c) (hx : ReadsInt w .u8 A n xs) (hb : Bytes xs) (hl : n ≤ 140737488351232) (hs : sumN xs = 0) :
    Calls Tryd.prog 12 #[.slice A n c] w fun e w' => ∃ v, e = .returned (.tuple #[.agg #[.int .u8 (xs.getD 0 0), .int .u8 (xs.getD 1 0), .int .u8 (xs.getD 4 0), .int .u8 (xs.getD 5 0), .int .u8 (xs.getD 6 0), .int .u8 (xs.getD 7 0), v], .int .i64 0]) ∧ w'.ownsRow w.heap.size 5 1 v (n - 8) (nums .u8 (xs.drop 8)) ∧ Bel w w' := by
  obtain ⟨ab, ao, rfl, hcell⟩ := reads_plain hx (by omega)
  have c0 := hcell 0 (by omega)
  rw [Nat.add_zero] at c0
  have c1 := hcell 1 (by omega)
  have c4 := hcell 4 (by omega)
  have c5 := hcell 5 (by omega)
  have c6 := hcell 6 (by omega)
  have c7 := hcell 7 (by omega)
  have HS := Aside0.mk (fun W (hW : Bel w W) => by have := sum_any xs (some ⟨ab, ao, none⟩) n c W (reads_len hx).symm hb (hW.reads hx) hl; rw [hs] at this; exact this)
  have HX := Aside0.mk hx
  have HXD := Aside0.mk (hx.drop_ 8 h hc)
  generalize xs.getD 0 0 = x0 at c0 ⊢
  generalize xs.getD 1 0 = x1 at c1 ⊢
  generalize xs.getD 4 0 = x4 at c4 ⊢
  generalize xs.getD 5 0 = x5 at c5 ⊢
  generalize xs.getD 6 0 = x6 at c6 ⊢
  generalize xs.getD 7 0 = x7 at c7 ⊢
  have i0 : 0 < n := by omega
  have i1 : (1 : Int) < (n : Int) := by omega
  have i8 : (8 : Int) ≤ (n : Int) := by omega
  have ic : (n : Int) ≤ (c : Int) := by omega
  have ic8 : (8 : Int) ≤ (c : Int) := by omega
  have ic4 : ¬ c = 4 := by omega
  have hat : ∀ (W : World) (a : Addr) (cc : Nat), (Instr.arrayAt 22 (.slice (some a) 4 cc)).run Tryd.prog W = .ok (.pointer (some a)) W := fun W a cc => by kernel_rfl
  have lt := World.block_lt_of_cell? w _ c0
  simp only at lt
  clear hx hcell hs
  go_enter Tryd.func12, Tryd.ntmps12
  go_wp2_with (first
    | (go_at_call 26; (with_reducible refine (HS.out _ (by repeat (first | assumption | exact Bel.refl _ | apply Bel.drewN | apply Bel.alloc))).mono ?_); rintro e w' ⟨rfl, rfl⟩))
  obtain ⟨W, hW⟩ : ∃ W, W = w.alloc (.cells #[.int .u8 0, .int .u8 0, .int .u8 0, .int .u8 0, .int .u8 0, .int .u8 0, .slice none 0 0] 25) := ⟨_, rfl⟩
  obtain ⟨R, hR⟩ : ∃ R, R = w.heap.size := ⟨_, rfl⟩
  have hB : Bel w W := by rw [hW]; exact (Bel.refl w).alloc _
  have q0 : W.cell? ⟨R, 0, none⟩ = some (.int .u8 0) := by rw [hW, hR]; go_simp
  have q1 : W.cell? ⟨R, 1, none⟩ = some (.int .u8 0) := by rw [hW, hR]; go_simp
  have q2 : W.cell? ⟨R, 2, none⟩ = some (.int .u8 0) := by rw [hW, hR]; go_simp
  have q3 : W.cell? ⟨R, 3, none⟩ = some (.int .u8 0) := by rw [hW, hR]; go_simp
  have q4 : W.cell? ⟨R, 4, none⟩ = some (.int .u8 0) := by rw [hW, hR]; go_simp
  have q5 : W.cell? ⟨R, 5, none⟩ = some (.int .u8 0) := by rw [hW, hR]; go_simp
  have q6 : W.cell? ⟨R, 6, none⟩ = some (.slice none 0 0) := by rw [hW, hR]; go_simp
  have q7 : W.frozen? ⟨R, 0, none⟩ = false := by rw [hW, hR]; go_simp
  have q8 : W.frozen? ⟨R, 1, none⟩ = false := by rw [hW, hR]; go_simp
  have q9 : W.frozen? ⟨R, 2, none⟩ = false := by rw [hW, hR]; go_simp
  have q10 : W.frozen? ⟨R, 3, none⟩ = false := by rw [hW, hR]; go_simp
  have q11 : W.frozen? ⟨R, 4, none⟩ = false := by rw [hW, hR]; go_simp
  have q12 : W.frozen? ⟨R, 5, none⟩ = false := by rw [hW, hR]; go_simp
  have q13 : W.frozen? ⟨R, 6, none⟩ = false := by rw [hW, hR]; go_simp
  have hsz : W.heap.size = R + 1 := by rw [hW, hR]; simp
  have d0 := hB.cell c0
  have d1 := hB.cell c1
  have d4 := hB.cell c4
  have d5 := hB.cell c5
  have d6 := hB.cell c6
  have d7 := hB.cell c7
  rw [← hW, ← hR]
  have HBW := Aside0.mk hB
  have labR : ab < R + 1 := by rw [hR]; omega
  have nab : ¬ ab = R := by rw [hR]; omega
  have nab' : ¬ R = ab := by rw [hR]; omega
  have lR : R < R + 1 := by omega
  have HR := Aside0.mk hR
  have HXW := Aside0.mk (hB.reads HXD.out)
  have HSZ := Aside0.mk hsz
  clear hW hB c0 c1 c4 c5 c6 c7 HS HXD HX hR
  go_cut [0, 3] (fun v0 v3 wc => ∃ A2 c2, v3 = .int .i64 0 ∧ Aside0 (wc.ownsRow w.heap.size 5 1 (.slice A2 (n - 8) c2) (n - 8) (nums .u8 (xs.drop 8))) ∧ Bel w wc ∧ wc.cell? ⟨R, 0, none⟩ = some (.int .u8 x0) ∧ wc.cell? ⟨R, 1, none⟩ = some (.int .u8 x1) ∧ wc.cell? ⟨R, 2, none⟩ = some (.int .u8 x4) ∧ wc.cell? ⟨R, 3, none⟩ = some (.int .u8 x5) ∧ wc.cell? ⟨R, 4, none⟩ = some (.int .u8 x6) ∧ wc.cell? ⟨R, 5, none⟩ = some (.int .u8 x7) ∧ wc.cell? ⟨R, 6, none⟩ = some (.slice A2 (n - 8) c2))
  case first =>
    obtain ⟨ad, HX8, hSl⟩ : ∃ ad, Aside0 (ReadsInt W .u8 (some ad) (n - 8) (xs.drop 8)) ∧ (if c = 8 then some (⟨ab, ao, none⟩ : Addr) else some ⟨ab, ao + 8, none⟩) = some ad := by
      by_cases h8 : c = 8
      · have hx8 := HXW.out
        rw [if_pos h8] at hx8
        exact ⟨_, ⟨hx8⟩, by rw [if_pos h8]⟩
      · have hx8 := HXW.out
        rw [if_neg h8] at hx8
        exact ⟨⟨ab, ao + 8, none⟩, ⟨hx8⟩, by rw [if_neg h8]⟩
    clear HXW
    by_cases h8 : c = 8
    · rw [if_pos h8] at hSl
      obtain rfl := Option.some.inj hSl
      clear hSl
      go_region_held3 (fun w' => w'.cell? ⟨ab, ao, none⟩ = some (.int .u8 x0) ∧ w'.cell? ⟨ab, ao + 1, none⟩ = some (.int .u8 x1) ∧ w'.cell? ⟨ab, ao + 4, none⟩ = some (.int .u8 x4) ∧ w'.cell? ⟨ab, ao + 5, none⟩ = some (.int .u8 x5) ∧ w'.cell? ⟨ab, ao + 6, none⟩ = some (.int .u8 x6) ∧ w'.cell? ⟨ab, ao + 7, none⟩ = some (.int .u8 x7))
        (first | go_keep | (dsimp only; (repeat' apply And.intro) <;> (first | go_keep | (rw [hcc ab _ (by omega)]; assumption))))
        ((go_at_call 27; refine (clone_some _ _ _ (xs.drop 8) _ ((Bel.drew (Bel.refl W)).reads HX8.out) (by omega)).mono ?_; rintro e w2 ⟨v, rfl, ho, hbel⟩; obtain ⟨A2, c2, rfl⟩ := own_slice ho; obtain ⟨hcc0, hff0, hzz0⟩ := hbel.rules; have hcc : ∀ b o, b < R + 1 → w2.cell? ⟨b, o, none⟩ = W.cell? ⟨b, o, none⟩ := fun b o hb => hcc0 b o (by rw [show W.drew.heap.size = W.heap.size from rfl, HSZ.out]; exact hb); have hff : ∀ b o, b < R + 1 → w2.frozen? ⟨b, o, none⟩ = W.frozen? ⟨b, o, none⟩ := fun b o hb => hff0 b o (by rw [show W.drew.heap.size = W.heap.size from rfl, HSZ.out]; exact hb); have HO2 := Aside0.mk ho; have HB2 := Aside0.mk hbel; clear ho hbel hcc0 hff0 hzz0))
      all_goals (go_wp2; go_meet)
      all_goals (case rel =>
        have hz : W.drew.heap.size = R + 1 := HSZ.out
        refine ⟨A2, c2, rfl, ⟨?_⟩, ?_, ?_⟩
        · have h1 := HO2.out
          rw [hz] at h1
          exact own_weaken (own_setLow (own_setLow (own_setLow (own_setLow (own_setLow (own_setLow (own_setLow h1 lR _) lR _) lR _) lR _) lR _) lR _) lR _) (by rw [← HR.out]; omega)
        · have hw : Bel w w2 := (HBW.out.drew).trans HB2.out
          have hr : w.heap.size ≤ R := Nat.le_of_eq HR.out.symm
          exact Bel.setCell (Bel.setCell (Bel.setCell (Bel.setCell (Bel.setCell (Bel.setCell (Bel.setCell hw hr _) hr _) hr _) hr _) hr _) hr _) hr _
        · have k0 : w2.cell? ⟨R, 0, none⟩ = some (.int .u8 0) := by rw [hcc R 0 lR]; exact q0
          have k1 : w2.cell? ⟨R, 1, none⟩ = some (.int .u8 0) := by rw [hcc R 1 lR]; exact q1
          have k2 : w2.cell? ⟨R, 2, none⟩ = some (.int .u8 0) := by rw [hcc R 2 lR]; exact q2
          have k3 : w2.cell? ⟨R, 3, none⟩ = some (.int .u8 0) := by rw [hcc R 3 lR]; exact q3
          have k4 : w2.cell? ⟨R, 4, none⟩ = some (.int .u8 0) := by rw [hcc R 4 lR]; exact q4
          have k5 : w2.cell? ⟨R, 5, none⟩ = some (.int .u8 0) := by rw [hcc R 5 lR]; exact q5
          have k6 : w2.cell? ⟨R, 6, none⟩ = some (.slice none 0 0) := by rw [hcc R 6 lR]; exact q6
          clear hcc hff
          refine ⟨?_, ?_, ?_, ?_, ?_, ?_, ?_⟩ <;> go_cell)
    · rw [if_neg h8] at hSl
      obtain rfl := Option.some.inj hSl
      clear hSl
      go_region_held3 (fun w' => w'.cell? ⟨ab, ao, none⟩ = some (.int .u8 x0) ∧ w'.cell? ⟨ab, ao + 1, none⟩ = some (.int .u8 x1) ∧ w'.cell? ⟨ab, ao + 4, none⟩ = some (.int .u8 x4) ∧ w'.cell? ⟨ab, ao + 5, none⟩ = some (.int .u8 x5) ∧ w'.cell? ⟨ab, ao + 6, none⟩ = some (.int .u8 x6) ∧ w'.cell? ⟨ab, ao + 7, none⟩ = some (.int .u8 x7))
        (first | go_keep | (dsimp only; (repeat' apply And.intro) <;> (first | go_keep | (rw [hcc ab _ (by omega)]; assumption))))
        ((go_at_call 27; refine (clone_some _ _ _ (xs.drop 8) _ ((Bel.drew (Bel.refl W)).reads HX8.out) (by omega)).mono ?_; rintro e w2 ⟨v, rfl, ho, hbel⟩; obtain ⟨A2, c2, rfl⟩ := own_slice ho; obtain ⟨hcc0, hff0, hzz0⟩ := hbel.rules; have hcc : ∀ b o, b < R + 1 → w2.cell? ⟨b, o, none⟩ = W.cell? ⟨b, o, none⟩ := fun b o hb => hcc0 b o (by rw [show W.drew.heap.size = W.heap.size from rfl, HSZ.out]; exact hb); have hff : ∀ b o, b < R + 1 → w2.frozen? ⟨b, o, none⟩ = W.frozen? ⟨b, o, none⟩ := fun b o hb => hff0 b o (by rw [show W.drew.heap.size = W.heap.size from rfl, HSZ.out]; exact hb); have HO2 := Aside0.mk ho; have HB2 := Aside0.mk hbel; clear ho hbel hcc0 hff0 hzz0))
      all_goals (go_wp2; go_meet)
      all_goals (case rel =>
        have hz : W.drew.heap.size = R + 1 := HSZ.out
        refine ⟨A2, c2, rfl, ⟨?_⟩, ?_, ?_⟩
        · have h1 := HO2.out
          rw [hz] at h1
          exact own_weaken (own_setLow (own_setLow (own_setLow (own_setLow (own_setLow (own_setLow (own_setLow h1 lR _) lR _) lR _) lR _) lR _) lR _) lR _) (by rw [← HR.out]; omega)
        · have hw : Bel w w2 := (HBW.out.drew).trans HB2.out
          have hr : w.heap.size ≤ R := Nat.le_of_eq HR.out.symm
          exact Bel.setCell (Bel.setCell (Bel.setCell (Bel.setCell (Bel.setCell (Bel.setCell (Bel.setCell hw hr _) hr _) hr _) hr _) hr _) hr _) hr _
        · have k0 : w2.cell? ⟨R, 0, none⟩ = some (.int .u8 0) := by rw [hcc R 0 lR]; exact q0
          have k1 : w2.cell? ⟨R, 1, none⟩ = some (.int .u8 0) := by rw [hcc R 1 lR]; exact q1
          have k2 : w2.cell? ⟨R, 2, none⟩ = some (.int .u8 0) := by rw [hcc R 2 lR]; exact q2
          have k3 : w2.cell? ⟨R, 3, none⟩ = some (.int .u8 0) := by rw [hcc R 3 lR]; exact q3
          have k4 : w2.cell? ⟨R, 4, none⟩ = some (.int .u8 0) := by rw [hcc R 4 lR]; exact q4
          have k5 : w2.cell? ⟨R, 5, none⟩ = some (.int .u8 0) := by rw [hcc R 5 lR]; exact q5
          have k6 : w2.cell? ⟨R, 6, none⟩ = some (.slice none 0 0) := by rw [hcc R 6 lR]; exact q6
          clear hcc hff
          refine ⟨?_, ?_, ?_, ?_, ?_, ?_, ?_⟩ <;> go_cell)
  case rest =>
    obtain ⟨A2, c2, rfl, HO, hbel, e0, e1, e2, e3, e4, e5, e6⟩ := hcut
    go_wp2
    refine bodyPost_ret (v := .tuple #[.agg #[.int .u8 x0, .int .u8 x1, .int .u8 x4, .int .u8 x5, .int .u8 x6, .int .u8 x7, .slice A2 (n - 8) c2], .int .i64 0]) (by simp [results, Tryd.results12, go_sem, e0, e1, e2, e3, e4, e5, e6]) rfl ⟨_, rfl, HO.out, hbel⟩
end Go.Proofs.YtjdpoliamcnkbaaDoor.T
