import Derived.Test.YtjdpoliamcnkbaaDoorVIcmpBack10
import Derived.BigRegion
import Derived.StillTailTactics
namespace Go.Proofs.YtjdpoliamcnkbaaDoor.T
open Go.BigFrame Go.RowKit Go.Maps Go.Proofs.YtjdpoliamcnkbaaDoorW.PrintWords
set_option linter.unusedVariables false
set_option linter.unusedSimpArgs false
set_option maxRecDepth 1000000

set_option maxHeartbeats 8000000 in
theorem backs_law (t c r0 r1 r2 r3 : Int) (A : Option Addr) (n0 n cm : Nat) (xs : List Int) (p q : Int) (B : Option Addr) (k0 k ck : Nat) (ys : List Int) (w : World)
    (hn : n = min n0 200 / 2 * 2) (hc : n0 ≤ cm) (hx : ReadsInt w .u8 A n xs) (hb : Bytes xs) (hh : Bytes [t, c, r0, r1, r2, r3]) (hl : n0 ≤ 9223372036854775807)
    (hp0 : 0 ≤ p) (hp1 : p ≤ 255) (hq0 : 0 ≤ q) (hq1 : q ≤ 65535)
    (hk : k = min k0 300) (hck : k0 ≤ ck) (hy : ReadsInt w .u8 B k ys) (hby : Bytes ys) (hlk : k0 ≤ 140737488351232) (hK : Kinds w) :
    Calls Tryd.prog 5 #[.agg #[.int .u8 t, .int .u8 c, .int .u8 r0, .int .u8 r1, .int .u8 r2, .int .u8 r3, .slice A n0 cm], .int .u8 p, .int .u16 q, .slice B k0 ck] w fun e w' => e = .returned (.bool true) ∧ Bel w w' := by
  have HX := Aside0.mk hx
  have HBX := Aside0.mk hb
  have HH := Aside0.mk hh
  have HY := Aside0.mk hy
  have HBY := Aside0.mk hby
  have HK := Aside0.mk hK
  have HP := Aside0.mk (And.intro hp0 hp1)
  have HQ := Aside0.mk (And.intro hq0 hq1)
  have hn200 : n ≤ 200 := by omega
  have hn2 : n % 2 = 0 := by omega
  have HN := Aside0.mk hn
  have HKK := Aside0.mk hk
  have hnc : n ≤ cm := by omega
  clear hx hb hh hy hby hK hp0 hp1 hq0 hq1 hk hn
  go_enter Tryd.func5, Tryd.ntmps5
  go_upto_region 1 with (fail)
  obtain ⟨R, hR⟩ : ∃ R, R = w.heap.size := ⟨_, rfl⟩
  go_cut [1, 2, 3, 4, 8] (fun v1 v2 v3 v4 v8 wc => v1 = .int .u8 p ∧ v2 = .int .u16 q ∧ v3 = .slice B k0 ck ∧ v4 = .pointer (some ⟨R, 0, none⟩) ∧ v8 = .bool false ∧ Aside0 (Bel w wc) ∧ Aside0 (∀ i, wc.frozen? ⟨R, i, none⟩ = false) ∧ wc.cell? ⟨R, 0, none⟩ = some (.int .u8 t) ∧ wc.cell? ⟨R, 1, none⟩ = some (.int .u8 c) ∧ wc.cell? ⟨R, 2, none⟩ = some (.int .u8 r0) ∧ wc.cell? ⟨R, 3, none⟩ = some (.int .u8 r1) ∧ wc.cell? ⟨R, 4, none⟩ = some (.int .u8 r2) ∧ wc.cell? ⟨R, 5, none⟩ = some (.int .u8 r3) ∧ wc.cell? ⟨R, 6, none⟩ = some (.slice A n cm))
  case first =>
    by_cases hm : (n0 : Int) ≤ 200
    · have e : ((n0 : Int) / 2 * 2).toNat = n := by have := HN.out; omega
      have e1 : (n0 : Int) / 2 * 2 = (n : Int) := by have := HN.out; omega
      have e2 : (n : Int) ≤ (cm : Int) := by omega
      go_wp2
      go_meet
      case rel => exact ⟨rfl, rfl, rfl, by rw [hR], rfl, ⟨(Bel.refl w).alloc _⟩, ⟨fun i => by rw [hR]; go_simp⟩, by rw [hR]; go_simp, by rw [hR]; go_simp, by rw [hR]; go_simp, by rw [hR]; go_simp, by rw [hR]; go_simp, by rw [hR]; go_simp, by rw [hR]; go_simp⟩
    · obtain rfl : n = 200 := by have := HN.out; omega
      have e2 : (200 : Int) ≤ (cm : Int) := by omega
      go_wp2
      go_meet
      case rel => exact ⟨rfl, rfl, rfl, by rw [hR], rfl, ⟨(Bel.refl w).alloc _⟩, ⟨fun i => by rw [hR]; go_simp⟩, by rw [hR]; go_simp, by rw [hR]; go_simp, by rw [hR]; go_simp, by rw [hR]; go_simp, by rw [hR]; go_simp, by rw [hR]; go_simp, by rw [hR]; go_simp⟩
  case rest =>
    obtain ⟨rfl, rfl, rfl, rfl, rfl, hbc, hfz, c0, c1, c2, c3, c4, c5, c6⟩ := hcut
    have HNL := Aside0.mk (reads_len HX.out)
    have HPUT := Aside0.mk (put_ok t c r0 r1 r2 r3 A n cm xs wc (by omega) HNL.out.symm (hbc.out.reads HX.out) HBX.out HH.out)
    have LB := Aside0.mk (show (putB t c r0 r1 r2 r3 xs).length = 8 + n by have := HNL.out; simp [putB]; omega)
    have BB := Aside0.mk (putB_bytes HH.out HBX.out)
    have SB := Aside0.mk (putB_sum HH.out HBX.out)
    obtain ⟨bs, hbs⟩ : ∃ bs, bs = putB t c r0 r1 r2 r3 xs := ⟨_, rfl⟩
    have HBS := Aside0.mk hbs
    rw [← hbs] at HPUT LB BB SB
    obtain ⟨lR, hlR⟩ : ∃ z : R < wc.heap.size, True := ⟨by simpa using World.block_lt_of_cell? _ _ c0, trivial⟩
    have HR := Aside0.mk hR
    clear hbs hlR hR
    go_upto_region 5 with (first
      | (go_at_call 15; (with_reducible refine HPUT.out.mono ?_); rintro e w1 ⟨v, rfl, ho, hb1⟩; obtain ⟨g, cap, rfl, hgb, hgl⟩ := ho.form (by omega); obtain ⟨hcc, hff, hzz⟩ := hb1.rules; have HO := Aside0.mk ho; have HB1 := Aside0.mk hb1; have c0' := (hcc R 0 lR).trans c0; have c1' := (hcc R 1 lR).trans c1; have c2' := (hcc R 2 lR).trans c2; have c3' := (hcc R 3 lR).trans c3; have c4' := (hcc R 4 lR).trans c4; have c5' := (hcc R 5 lR).trans c5; have c6' := (hcc R 6 lR).trans c6; clear ho hb1 hcc hff c0 c1 c2 c3 c4 c5 c6))
    have hG : GetN bs t c r0 r1 r2 r3 xs 0 := .inr (.inr ⟨by have := LB.out; omega, SB.out, by rw [HBS.out]; rfl, by rw [HBS.out]; rfl, by rw [HBS.out]; rfl, by rw [HBS.out]; rfl, by rw [HBS.out]; rfl, by rw [HBS.out]; rfl, by rw [HBS.out]; rfl, rfl⟩)
    have hrd := own_reads' HO.out
    have hcp : 8 + n ≤ cap := own_le HO.out
    have hget := get_any (some ⟨g, 0, none⟩) (8 + n) cap bs t c r0 r1 r2 r3 xs 0 w1 hcp hrd BB.out (by omega) hG
    rw [HNL.out] at hget
    have HGET := Aside0.mk hget
    clear hget
    have pl : p % 8 < (cap : Int) := by omega
    have pl0 : 0 ≤ p % 8 := by omega
    have pl1 : p % 8 < 8 := by omega
    have lR1 : R < w1.heap.size := by omega
    have HRD := Aside0.mk hrd
    clear hrd hG
    have hq4 (V : World) := eq_arr4 V r0 r1 r2 r3
    go_upto_region 6 with (first
      | (go_at_call 12; (with_reducible refine HGET.out.mono ?_); rintro e w2 ⟨A2, k2, rfl, ho2, hb2⟩; obtain ⟨hcc, hff, hzz2⟩ := hb2.rules; have HO2 := Aside0.mk ho2; have HB2 := Aside0.mk hb2; have d0 := (hcc R 0 lR1).trans c0'; have d1 := (hcc R 1 lR1).trans c1'; have d2 := (hcc R 2 lR1).trans c2'; have d3 := (hcc R 3 lR1).trans c3'; have d4 := (hcc R 4 lR1).trans c4'; have d5 := (hcc R 5 lR1).trans c5'; have d6 := (hcc R 6 lR1).trans c6'; clear ho2 hb2 hcc hff c0' c1' c2' c3' c4' c5' c6'))
    have lR2 : R < w2.heap.size := by omega
    obtain ⟨hp0, hp1⟩ := HP.out
    obtain ⟨G, hG⟩ : ∃ G, G = w2.heap.size := ⟨_, rfl⟩
    obtain ⟨V, hV⟩ : ∃ V, V = w2.alloc (.cells #[.int .u8 t, .int .u8 c, .int .u8 r0, .int .u8 r1, .int .u8 r2, .int .u8 r3, .slice A2 n k2] 25) := ⟨_, rfl⟩
    have e0 : V.cell? ⟨G, 0, none⟩ = some (.int .u8 t) := by rw [hV, hG]; go_simp
    have e1 : V.cell? ⟨G, 1, none⟩ = some (.int .u8 c) := by rw [hV, hG]; go_simp
    have e2 : V.cell? ⟨G, 2, none⟩ = some (.int .u8 r0) := by rw [hV, hG]; go_simp
    have e3 : V.cell? ⟨G, 3, none⟩ = some (.int .u8 r1) := by rw [hV, hG]; go_simp
    have e4 : V.cell? ⟨G, 4, none⟩ = some (.int .u8 r2) := by rw [hV, hG]; go_simp
    have e5 : V.cell? ⟨G, 5, none⟩ = some (.int .u8 r3) := by rw [hV, hG]; go_simp
    have e6 : V.cell? ⟨G, 6, none⟩ = some (.slice A2 n k2) := by rw [hV, hG]; go_simp
    have hBV : Bel w2 V := by rw [hV]; exact (Bel.refl w2).alloc _
    have lG : G < V.heap.size := by rw [hV, hG]; simp
    have lR3 : R < V.heap.size := by have := hBV.out.size; omega
    have HBV := Aside0.mk hBV
    rw [← hV, ← hG]
    clear hV hG hBV
    go_upto_region 7 with (first
      | (go_at_call 12; (with_reducible refine (get_short _ _ _ _ (by omega)).mono ?_); rintro e w3 ⟨rfl, hb3⟩
         obtain ⟨hcc3, hff3, hzz3⟩ := hb3.rules
         have HB3 := Aside0.mk hb3
         have f0 := (hcc3 R 0 lR3).trans (HBV.out.cell d0)
         have f1 := (hcc3 R 1 lR3).trans (HBV.out.cell d1)
         have f2 := (hcc3 R 2 lR3).trans (HBV.out.cell d2)
         have f3 := (hcc3 R 3 lR3).trans (HBV.out.cell d3)
         have f4 := (hcc3 R 4 lR3).trans (HBV.out.cell d4)
         have f5 := (hcc3 R 5 lR3).trans (HBV.out.cell d5)
         have f6 := (hcc3 R 6 lR3).trans (HBV.out.cell d6)
         have g0 := (hcc3 G 0 lG).trans e0
         have g1 := (hcc3 G 1 lG).trans e1
         have g2 := (hcc3 G 2 lG).trans e2
         have g3 := (hcc3 G 3 lG).trans e3
         have g4 := (hcc3 G 4 lG).trans e4
         have g5 := (hcc3 G 5 lG).trans e5
         have g6 := (hcc3 G 6 lG).trans e6
         clear hb3 hcc3 hff3 e0 e1 e2 e3 e4 e5 e6 d0 d1 d2 d3 d4 d5 d6))
    obtain ⟨W, hW⟩ : ∃ W, W = w3.alloc (.cells #[.int .u8 0, .int .u8 0, .int .u8 0, .int .u8 0, .int .u8 0, .int .u8 0, .slice none 0 0] 25) := ⟨_, rfl⟩
    have hB3W : Bel w3 W := by rw [hW]; exact (Bel.refl w3).alloc _
    have f0 := hB3W.cell f0
    have f1 := hB3W.cell f1
    have f2 := hB3W.cell f2
    have f3 := hB3W.cell f3
    have f4 := hB3W.cell f4
    have f5 := hB3W.cell f5
    have f6 := hB3W.cell f6
    have g0 := hB3W.cell g0
    have g1 := hB3W.cell g1
    have g2 := hB3W.cell g2
    have g3 := hB3W.cell g3
    have g4 := hB3W.cell g4
    have g5 := hB3W.cell g5
    have g6 := hB3W.cell g6
    have hb2W : Bel w2 W := HBV.out.trans (HB3.out.trans hB3W)
    have hb1W : Bel w1 W := HB2.out.trans hb2W
    have hcW : Bel wc W := HB1.out.trans hb1W
    have hwW : Bel w W := hbc.out.trans hcW
    have cv1 := conv_reads (c := k2) (own_reads' (hb2W.own HO2.out))
    have cv2 := conv_reads (c := cm) (hwW.reads HX.out)
    have HOW := Aside0.mk (own_weaken (hb1W.own HO.out) (show w.heap.size ≤ wc.heap.size from hbc.out.out.size))
    have HWW := Aside0.mk hwW
    have hgw : w.heap.size ≤ g := by have := hbc.out.out.size; omega
    rw [← hW]
    have hq5 (V : World) := neq_arr4 V r0 r1 r2 r3
    clear hW hB3W hb2W hb1W hcW hwW
    go_upto_region 9 with (fail)
    clear f0 f1 f2 f3 f4 f5 f6 g0 g1 g2 g3 g4 g5 g6 cv1 cv2 hq4 hq5 lR lR1 lR2 lR3 lG
    go_cut [1, 2, 3, 8, 9, 15] (fun v1 v2 v3 v8 v9 v15 wd => ∃ j : Nat, v1 = .int .u8 p ∧ v2 = .int .u16 q ∧ v3 = .slice B k0 ck ∧ v8 = .bool false ∧ v9 = .slice (some ⟨g, 0, none⟩) (8 + n) cap ∧ v15 = .int .i64 j ∧ j % 2 = 0 ∧ j + 1 < 8 + n ∧ wd = W)
    case first =>
      go_wp2
      go_meet
      case rel =>
        have m0 := Int.emod_nonneg p (show (8 + (n : Int)) / 2 ≠ 0 by omega)
        have m1 := Int.emod_lt_of_pos p (show 0 < (8 + (n : Int)) / 2 by omega)
        generalize p % ((8 + (n : Int)) / 2) = m at m0 m1 ⊢
        refine ⟨2 * m.toNat, rfl, rfl, rfl, rfl, rfl, ?_, by omega, by omega, rfl⟩
        congr 1
        rw [show ((2 * m.toNat : Nat) : Int) = 2 * m by omega]
        unfold wrap64
        omega
    case rest =>
      obtain ⟨j, rfl, rfl, rfl, rfl, rfl, rfl, j2, jn, rfl⟩ := hcut
      go_upto_region 10 with (fail)
      exact back10 (K := _) (hKK := by assumption) (g := g) (n := n) (cap := cap) (j := j) (bs := bs) (p := p) (q := q) (B := B) (k0 := k0) (k := k) (ck := ck) (ys := ys) (w := w) (W := _) (how := HOW.out) (hww := HWW.out) (hgw := hgw) (bb := BB.out) (sb := SB.out) (lb := LB.out) (hn2 := hn2) (hn200 := hn200) (hq0 := HQ.out.1) (hq1 := HQ.out.2) (j2 := j2) (jn := jn) (hk := HKK.out) (hck := hck) (hy := HY.out) (hby := HBY.out) (hlk := hlk) (hK := HK.out)
end Go.Proofs.YtjdpoliamcnkbaaDoor.T
