import Derived.Test.YtjdpoliamcnkbaaDoorIcmpAlike
import Derived.Test.YtjdpoliamcnkbaaDoorIcmpTells
namespace Go.Proofs.YtjdpoliamcnkbaaDoor.T
open Go.BigFrame Go.RowKit Go.Maps Go.Proofs.YtjdpoliamcnkbaaDoorW.PrintWords
set_option linter.unusedVariables false
set_option linter.unusedSimpArgs false
set_option maxRecDepth 100000

/-- What any bytes are read as. -/
def GetN (xs : List Int) (m0 m1 m2 m3 m4 m5 : Int) (body : List Int) (code : Int) : Prop :=
  (xs.length < 8 ∧ m0 = 0 ∧ m1 = 0 ∧ m2 = 0 ∧ m3 = 0 ∧ m4 = 0 ∧ m5 = 0 ∧ body = [] ∧ code = 4) ∨
  (8 ≤ xs.length ∧ sumN xs ≠ 0 ∧ m0 = 0 ∧ m1 = 0 ∧ m2 = 0 ∧ m3 = 0 ∧ m4 = 0 ∧ m5 = 0 ∧ body = [] ∧ code = 21) ∨
  (8 ≤ xs.length ∧ sumN xs = 0 ∧ m0 = xs.getD 0 0 ∧ m1 = xs.getD 1 0 ∧ m2 = xs.getD 4 0 ∧ m3 = xs.getD 5 0 ∧ m4 = xs.getD 6 0 ∧ m5 = xs.getD 7 0 ∧ body = xs.drop 8 ∧ code = 0)
theorem getN_ex (xs : List Int) : ∃ m0 m1 m2 m3 m4 m5 body code, GetN xs m0 m1 m2 m3 m4 m5 body code := by
  by_cases h : xs.length < 8
  · exact ⟨_, _, _, _, _, _, _, _, .inl ⟨h, rfl, rfl, rfl, rfl, rfl, rfl, rfl, rfl⟩⟩
  · by_cases hs : sumN xs = 0
    · exact ⟨_, _, _, _, _, _, _, _, .inr (.inr ⟨by omega, hs, rfl, rfl, rfl, rfl, rfl, rfl, rfl, rfl⟩)⟩
    · exact ⟨_, _, _, _, _, _, _, _, .inr (.inl ⟨by omega, hs, rfl, rfl, rfl, rfl, rfl, rfl, rfl, rfl⟩)⟩
theorem get_any (A : Option Addr) (n c : Nat) (xs : List Int) (m0 m1 m2 m3 m4 m5 : Int) (body : List Int) (code : Int) (w : World) (hc : n ≤ c) (hx : ReadsInt w .u8 A n xs) (hb : Bytes xs) (hl : n ≤ 140737488351232) (hg : GetN xs m0 m1 m2 m3 m4 m5 body code) :
    Calls Tryd.prog 12 #[.slice A n c] w fun e w' => ∃ A' c', e = .returned (.tuple #[.agg #[.int .u8 m0, .int .u8 m1, .int .u8 m2, .int .u8 m3, .int .u8 m4, .int .u8 m5, .slice A' body.length c'], .int .i64 code]) ∧ w'.ownsRow w.heap.size 5 1 (.slice A' body.length c') body.length (nums .u8 body) ∧ Bel w w' := by
  have hn := reads_len hx
  rcases hg with ⟨h, rfl, rfl, rfl, rfl, rfl, rfl, rfl, rfl⟩ | ⟨h, hs, rfl, rfl, rfl, rfl, rfl, rfl, rfl, rfl⟩ | ⟨h, hs, rfl, rfl, rfl, rfl, rfl, rfl, rfl, rfl⟩
  · refine (get_short A n c w (by omega)).mono ?_
    rintro e w' ⟨rfl, hbl⟩
    exact ⟨none, 0, rfl, own_none _ _ _, hbl⟩
  · refine (get_sum A n c xs w (by omega) hx hb hl hs).mono ?_
    rintro e w' ⟨rfl, hbl⟩
    exact ⟨none, 0, rfl, own_none _ _ _, hbl⟩
  · refine (get_ok A n c xs w (by omega) hc hx hb hl hs).mono ?_
    rintro e w' ⟨v, rfl, ho, hbl⟩
    have hd : (xs.drop 8).length = n - 8 := by rw [List.length_drop]; omega
    obtain ⟨A', c', rfl⟩ := own_slice ho
    rw [hd]
    exact ⟨A', c', rfl, ho, hbl⟩
theorem rget_any (A : Option Addr) (n c : Nat) (xs : List Int) (m0 m1 m2 m3 m4 m5 : Int) (body : List Int) (code : Int) (w : World) (hc : n ≤ c) (hx : ReadsInt w .u8 A n xs) (hb : Bytes xs) (hl : n ≤ 140737488351232) (hg : GetN xs m0 m1 m2 m3 m4 m5 body code) :
    Calls Tryd.prog 13 #[.slice A n c] w fun e w' => ∃ A' c', e = .returned (.tuple #[.agg #[.int .u8 m0, .int .u8 m1, .int .u8 m2, .int .u8 m3, .int .u8 m4, .int .u8 m5, .slice A' body.length c'], .int .i64 code]) ∧ ReadsInt w .u8 A' body.length body ∧ Bel w w' := by
  have hn := reads_len hx
  rcases hg with ⟨h, rfl, rfl, rfl, rfl, rfl, rfl, rfl, rfl⟩ | ⟨h, hs, rfl, rfl, rfl, rfl, rfl, rfl, rfl, rfl⟩ | ⟨h, hs, rfl, rfl, rfl, rfl, rfl, rfl, rfl, rfl⟩
  · refine (rget_short A n c w (by omega)).mono ?_
    rintro e w' ⟨rfl, hbl⟩
    exact ⟨none, 0, rfl, ⟨rfl, by simp, fun h => absurd h (Nat.lt_irrefl 0)⟩, hbl⟩
  · refine (rget_sum A n c xs w (by omega) hx hb hl hs).mono ?_
    rintro e w' ⟨rfl, hbl⟩
    exact ⟨none, 0, rfl, ⟨rfl, by simp, fun h => absurd h (Nat.lt_irrefl 0)⟩, hbl⟩
  · refine (rget_ok A n c xs w (by omega) hc hx hb hl hs).mono ?_
    rintro e w' ⟨A', rfl, hr, hbl⟩
    have hd : (xs.drop 8).length = n - 8 := by rw [List.length_drop]; omega
    rw [hd]
    exact ⟨A', c - 8, rfl, hr, hbl⟩

set_option maxHeartbeats 2000000 in
theorem gets_law (A : Option Addr) (n0 n c : Nat) (xs : List Int) (w : World) (hn : n = min n0 300) (hc : n0 ≤ c) (hx : ReadsInt w .u8 A n xs) (hb : Bytes xs) (hl : n0 ≤ 140737488351232) (hK : Kinds w) :
    Calls Tryd.prog 4 #[.slice A n0 c] w fun e w' => e = .returned (.bool true) ∧ Bel w w' := by
  obtain ⟨m0, m1, m2, m3, m4, m5, body, code, hg⟩ := getN_ex xs
  have HX := Aside0.mk hx
  have HBY := Aside0.mk hb
  have HG := Aside0.mk hg
  have HK := Aside0.mk hK
  have HXL := Aside0.mk (reads_len hx)
  have mn : (if (n0 : Int) ≤ 300 then (n0 : Int) else 300) = (n : Int) := by split <;> omega
  have mn2 : min (n0 : Int) 300 = (n : Int) := by omega
  have hn1 : n ≤ 300 := by omega
  have hn2 : n ≤ n0 := by omega
  have hnc : (n : Int) ≤ (c : Int) := by omega
  clear hx hb hg hK hn
  go_enter Tryd.func4, Tryd.ntmps4
  go_upto_region 1 with (fail)
  go_cut [0] (fun v0 wc => v0 = .slice A n c ∧ wc = w)
  case first =>
    by_cases hm : (n0 : Int) ≤ 300
    · obtain rfl : n = n0 := by omega
      go_wp2
      go_meet
      case rel => exact ⟨rfl, rfl⟩
    · obtain rfl : n = 300 := by omega
      go_wp2
      go_meet
      case rel => exact ⟨rfl, rfl⟩
  case rest =>
    obtain ⟨rfl, rfl⟩ := hcut
    go_upto_region 3 with (first
      | (at_builtin; refine print_append_row (w0 := wc) wc.heap.size rfl (.const (.slice none 0 0)) (.tmp 14) 23 5 .u8 1 rfl Tryd.underlying23 infoU8b (by omega) _ [] xs A n c rfl rfl (own_none _ _ _) HX.out (Below.refl _ _) (Nat.le_refl _) ?h1 ?_
         case h1 => simp; omega
         intro v2 w2 hown2 hbel _ _
         simp only [List.nil_append] at hown2
         rw [HXL.out] at hown2
         obtain ⟨A3, c3, rfl⟩ := own_slice hown2
         have HO := Aside0.mk hown2
         have HB2 := Aside0.mk (Bel.mk hbel)
         clear hown2 hbel))
    have hrd := own_reads' HO.out
    have hnc3 : n ≤ c3 := own_le HO.out
    have HGET := Aside0.mk (get_any A3 n c3 xs m0 m1 m2 m3 m4 m5 body code w2 hnc3 hrd HBY.out (by omega) HG.out)
    clear hrd hnc3
    go_upto_region 4 with (first
      | (go_at_call 12; (with_reducible refine HGET.out.mono ?_); rintro e w3 ⟨A4, c4, rfl, ho4, hb4⟩; have HO4 := Aside0.mk ho4; have HB4 := Aside0.mk hb4; clear ho4 hb4))
    obtain ⟨V, hV⟩ : ∃ V, V = w3.alloc (.cells #[.int .u8 m0, .int .u8 m1, .int .u8 m2, .int .u8 m3, .int .u8 m4, .int .u8 m5, .slice A4 body.length c4] 25) := ⟨_, rfl⟩
    obtain ⟨G, hG⟩ : ∃ G, G = w3.heap.size := ⟨_, rfl⟩
    have q0 : V.cell? ⟨G, 0, none⟩ = some (.int .u8 m0) := by rw [hV, hG]; go_simp
    have q1 : V.cell? ⟨G, 1, none⟩ = some (.int .u8 m1) := by rw [hV, hG]; go_simp
    have q2 : V.cell? ⟨G, 2, none⟩ = some (.int .u8 m2) := by rw [hV, hG]; go_simp
    have q3 : V.cell? ⟨G, 3, none⟩ = some (.int .u8 m3) := by rw [hV, hG]; go_simp
    have q4 : V.cell? ⟨G, 4, none⟩ = some (.int .u8 m4) := by rw [hV, hG]; go_simp
    have q5 : V.cell? ⟨G, 5, none⟩ = some (.int .u8 m5) := by rw [hV, hG]; go_simp
    have q6 : V.cell? ⟨G, 6, none⟩ = some (.slice A4 body.length c4) := by rw [hV, hG]; go_simp
    have b23 : Bel w2 V := by rw [hV]; exact HB4.out.alloc _
    have HV1 := Aside0.mk (b23.own HO.out)
    have HV2 := Aside0.mk (show V.ownsRow w2.heap.size 5 1 (.slice A4 body.length c4) body.length (nums .u8 body) by rw [hV]; exact own_alloc HO4.out _)
    have HV3 := Aside0.mk (show Bel wc V from HB2.out.trans b23)
    have HLT := Aside0.mk (show ∀ g, A3 = some ⟨g, 0, none⟩ → wc.heap.size ≤ g ∧ g < w2.heap.size ∧ ¬ g = G from fun g hg => by
      have ho := HO.out
      rw [hg] at ho
      rcases ho.2 with ⟨h1, _⟩ | ⟨g', cap, cur, h1, h2, h3, _⟩
      · cases h1
      · cases h1
        have := (Array.getElem?_eq_some_iff.1 h3).1
        have := HB4.out.out.size
        exact ⟨h2, by omega, by omega⟩)
    rw [← hV, ← hG]
    clear hV hG HO HO4 HB4 HB2 HGET b23
    go_wp2
    go_loopw [6] (fun v6 wl => ∃ (i : Nat) (ys : List Int), i ≤ n ∧ v6 = .int .i64 i ∧ Aside0 (wl.ownsRow wc.heap.size 5 1 (.slice A3 n c3) n (nums .u8 ys)) ∧ Aside0 (wl.ownsRow w2.heap.size 5 1 (.slice A4 body.length c4) body.length (nums .u8 body)) ∧ Aside0 (Bel wc wl) ∧ wl.cell? ⟨G, 0, none⟩ = some (.int .u8 m0) ∧ wl.cell? ⟨G, 1, none⟩ = some (.int .u8 m1) ∧ wl.cell? ⟨G, 2, none⟩ = some (.int .u8 m2) ∧ wl.cell? ⟨G, 3, none⟩ = some (.int .u8 m3) ∧ wl.cell? ⟨G, 4, none⟩ = some (.int .u8 m4) ∧ wl.cell? ⟨G, 5, none⟩ = some (.int .u8 m5) ∧ wl.cell? ⟨G, 6, none⟩ = some (.slice A4 body.length c4)) (fun v6 _ => n - (intOf v6).toNat)
    case atStart => exact ⟨0, xs, by omega, rfl, HV1, HV2, HV3, q0, q1, q2, q3, q4, q5, q6⟩
    case round =>
      obtain ⟨i, ys, hi, rfl, H1, H2, H3, g0, g1, g2, g3, g4, g5, g6⟩ := hrel
      clear q0 q1 q2 q3 q4 q5 q6 HV1 HV2 HV3
      by_cases hlt : i < n
      · obtain ⟨g, cap, e, hgb, hgl⟩ := H1.out.form (by omega)
        injection e with e1 e2 e3
        subst e1
        obtain ⟨gb, gw, gG⟩ := HLT.out g rfl
        obtain ⟨d, f⟩ := own_at H1.out i (by omega) (by omega)
        rw [Int.toNat_natCast] at d f
        obtain ⟨o1, o2⟩ := own_store H1.out i (bits .xor .u8 (rd ys i) 255)
        rw [Int.toNat_natCast] at o1 o2
        have O1 := Aside0.mk o1
        have O2 := Aside0.mk o2
        generalize rd ys (i : Int) = y at d O1 O2
        have gG' : ¬ G = g := fun h => gG h.symm
        clear o1 o2 hgl e3
        go_wp2
        go_roundw
        case rel => exact ⟨i + 1, _, by omega, by go_num, O1, ⟨own_setLow H2.out gw _⟩, ⟨Bel.setCell H3.out gb _⟩, by go_cell, by go_cell, by go_cell, by go_cell, by go_cell, by go_cell, by go_cell⟩
        case measure => simp [intOf]; omega
      · obtain rfl : i = n := by omega
        clear hlt
        have hb := H3.out
        have hbk := hb.out.size
        have HRG := Aside0.mk (rget_any A i c xs m0 m1 m2 m3 m4 m5 body code _ (by omega) (hb.reads HX.out) HBY.out (by omega) HG.out)
        have HA4 := Aside0.mk (own_reads' H2.out)
        have lG := World.block_lt_of_cell? _ _ g0
        simp only at lG
        clear hb
        go_upto_region 9 with (first
          | (go_at_call 13; (with_reducible refine HRG.out.mono ?_); rintro e w5 ⟨A5, c5, rfl, hr5, hb5⟩; have HR5 := Aside0.mk hr5; have HB5 := Aside0.mk hb5; obtain ⟨hcc, hff, hzz⟩ := hb5.rules; clear hr5 hb5))
        have l5 := Nat.lt_of_lt_of_le lG hzz
        have p0 := (hcc G 0 lG).trans g0
        have p1 := (hcc G 1 lG).trans g1
        have p2 := (hcc G 2 lG).trans g2
        have p3 := (hcc G 3 lG).trans g3
        have p4 := (hcc G 4 lG).trans g4
        have p5 := (hcc G 5 lG).trans g5
        have p6 := (hcc G 6 lG).trans g6
        have nG : ¬ G = w5.heap.size := by omega
        clear hcc hff
        have HALK := Aside0.mk (fun W (hW : Bel w5 W) => alike_law m0 m1 m2 m3 m4 m5 A4 A5 body.length c4 c5 body W (hW.reads (HB5.out.reads HA4.out)) (hW.reads (HB5.out.reads HR5.out)))
        have HT := Aside0.mk (fun W (hW : Bel w5 W) => tells8_any W (HK.out.bel (H3.out.trans (HB5.out.trans hW))))
        go_wp2_with (first
          | (go_at_call 14; (with_reducible refine (HALK.out _ (by repeat (first | assumption | exact Bel.refl _ | apply Bel.drewN | apply Bel.alloc | refine Bel.trans ?_ (by assumption)))).mono ?_); rintro e w6 ⟨rfl, hb6⟩)
          | (go_at_call 11; (with_reducible refine (HT.out _ (by repeat (first | assumption | exact Bel.refl _ | apply Bel.drewN | apply Bel.alloc | refine Bel.trans ?_ (by assumption)))).mono ?_); rintro e w7 ⟨rfl, hb7⟩))
        go_ret
        exact ⟨rfl, (H3.out.trans HB5.out).trans (by repeat (first | assumption | exact Bel.refl _ | apply Bel.drewN | apply Bel.alloc | refine Bel.trans ?_ (by assumption)))⟩
end Go.Proofs.YtjdpoliamcnkbaaDoor.T
