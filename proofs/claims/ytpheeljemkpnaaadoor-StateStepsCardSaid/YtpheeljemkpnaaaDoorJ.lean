import Derived.Test.YtpheeljemkpnaaaDoorF
import Derived.Test.YtpheeljemkpnaaaDoorK
namespace Go.Proofs.YtpheeljemkpnaaaDoor.AW
open Go.BigFrame Go.RowKit Go.Proofs.YtpheeljemkpnaaaDoorW.PrintWords Go.Proofs.YtpheeljemkpnaaaDoorW.PrintLast Go.Proofs.YtpheeljemkpnaaaDoorW.PrintMore
set_option linter.unusedVariables false
set_option linter.unusedSimpArgs false
set_option maxRecDepth 100000

/-- The flags behind a segment, and whether the tests hold. -/
def g1 (q1 k : Nat) (b r : Bool) : Bool := b && k == 1 && !r && q1 == 1
def stChk (st q1 k : Nat) (b r syn both cross ack : Bool) : Bool :=
  let g := g1 q1 k b r
  let s1 := g || syn
  let c2 := (!g && cross) || (b && k == 1 && r)
  let b3 := (!g && both) || (b && k == 2 && (r || c2) && s1)
  let a4 := (!g && ack) || (b && k == 3 && !r && b3)
  (b || q1 == st) && (q1 != 4 || (s1 && b3 && a4)) && (st != 4 || q1 == 4 || k == 4 || k == 5) && (q1 != 1 || s1) && (q1 != 2 || (s1 && c2)) && (q1 != 3 || (s1 && b3))
def invB (st : Nat) (syn both cross ack : Bool) : Bool := (st != 1 || syn) && (st != 2 || (syn && cross)) && (st != 3 || (syn && both)) && (st != 4 || (syn && both && ack))
theorem stChk_all : ∀ st, st < 10 → ∀ k, k < 6 → ∀ r syn both cross ack : Bool, (!invB st syn both cross ack || stChk st (stepNK st r k).1 k (stepNK st r k).2 r syn both cross ack) = true := by decide +kernel
theorem stepNK_lt : ∀ st, st < 10 → ∀ k, k < 6 → ∀ r : Bool, (stepNK st r k).1 < 10 := by decide +kernel
theorem stInv0 : invB 0 false false false false = true := rfl
set_option maxHeartbeats 20000000 in
theorem steps_law (ps : List (Bool × Int)) (A : Option Addr) (c : Nat) (w : World) (hT : Tabs w) (hO : Opn w) (hP : Parts w A ps) (hn : ps.length ≤ 140737488351232) :
    Calls Tryd.prog 4 #[.slice A ps.length c] w fun e w' => e = .returned (.bool true) ∧ Below w.heap.size w w' := by
  have HT := Aside0.mk hT
  have HO := Aside0.mk hO
  have HP := Aside0.mk hP
  clear hT hP hO
  obtain ⟨n, hN⟩ : ∃ n, n = ps.length := ⟨_, rfl⟩
  rw [← hN] at hn ⊢
  have HN := Aside0.mk hN
  clear hN
  go_enter Tryd.func4, Tryd.ntmps4
  go_wp2
  go_loopw [3, 4, 5, 6, 7, 15] (fun v3 v4 v5 v6 v7 v15 wr => ∃ (i st : Nat) (syn both cross ack : Bool), i ≤ n ∧ st < 10 ∧ v15 = .int .i64 i ∧ v3 = .int .i64 st ∧ v4 = .bool syn ∧ v5 = .bool both ∧ v6 = .bool cross ∧ v7 = .bool ack ∧ Aside0 (invB st syn both cross ack = true) ∧ Bel w wr) (fun _ _ _ _ _ v15 _ => n - (intOf v15).toNat)
  case atStart => exact ⟨0, 0, false, false, false, false, by omega, by omega, rfl, rfl, rfl, rfl, rfl, rfl, ⟨stInv0⟩, Bel.refl _⟩
  case round =>
    obtain ⟨i, st, syn, both, cross, ack, hi, hst, rfl, rfl, rfl, rfl, rfl, rfl, hinv, hB⟩ := hrel
    by_cases hlt : i < n
    · obtain ⟨ad, rfl, c1, c2⟩ := (HP.out.below hB.out) i (by rw [← HN.out]; exact hlt)
      obtain ⟨p, hp⟩ : ∃ p, p = ps.getD i default := ⟨_, rfl⟩
      rw [← hp] at c1 c2
      clear hp
      obtain ⟨r, f⟩ := p
      obtain ⟨k, hk, ek⟩ := kind_range f
      have ck : ∀ w, Calls Tryd.prog 13 #[.int .u8 f] w fun e w' => e = .returned (.int .i64 (k : Int)) ∧ w = w' := fun w => by rw [← ek]; exact kind_calls _ w
      have e1 := stepN_k st r f k ek
      have n1 : ∀ W, Tabs W → Calls Tryd.prog 10 #[.int .i64 st, .bool r, .int .u8 f] W fun e w' => e = .returned (.tuple #[.int .i64 ((stepNK st r k).1 : Nat), .bool (stepNK st r k).2]) ∧ Drawn0 W w' := fun W hW => by rw [← e1]; exact next_any st hst r f W hW
      clear e1 ek
      dsimp only at c1 c2
      by_cases h60 : i = 100
      · have h60' : ((i : Int) == 100) = true := by simp; omega
        clear h60 n1 ck
        go_wp2_with (first
          | (go_at_call 12; (with_reducible refine (wakes_any _ (HT.out.below (Bel.out <| by repeat (first | assumption | exact Bel.refl _ | apply Bel.drewN | apply Bel.alloc | refine Bel.trans ?_ (by assumption)))) (HO.out.below (Bel.out <| by repeat (first | assumption | exact Bel.refl _ | apply Bel.drewN | apply Bel.alloc | refine Bel.trans ?_ (by assumption))))).mono ?_); rintro e w9 ⟨rfl, hb⟩; replace hb := Bel.mk hb))
        go_ret
        refine ⟨rfl, Bel.out ?_⟩
        exact by repeat (first | assumption | exact Bel.refl _ | apply Bel.drewN | apply Bel.alloc | refine Bel.trans ?_ (by assumption))
      · have h60' : ((i : Int) == 100) = false := by simp; omega
        clear h60
        have chk := stChk_all st hst k hk r syn both cross ack
        rw [hinv.out] at chk
        have hql := stepNK_lt st hst k hk r
        obtain ⟨q, hq⟩ : ∃ q, q = stepNK st r k := ⟨_, rfl⟩
        rw [← hq] at n1 chk hql
        obtain ⟨q1, b⟩ := q
        dsimp only at n1 chk hql
        unfold stChk at chk
        simp only [Bool.not_true, Bool.false_or, Bool.and_eq_true] at chk
        obtain ⟨⟨⟨⟨⟨y1, y2⟩, y3⟩, y4⟩, y5⟩, y6⟩ := chk
        have Y1 := Aside0.mk y1
        have Y2 := Aside0.mk y2
        have Y3 := Aside0.mk y3
        have Y4 := Aside0.mk y4
        have Y5 := Aside0.mk y5
        have Y6 := Aside0.mk y6
        have N1 := Aside0.mk n1
        have CK := Aside0.mk ck
        have HQL := Aside0.mk hql
        clear n1 ck y1 y2 y3 y4 y5 y6 hq hql hinv
        have K1 : Aside0 (((k : Int) == 1) = false ∧ (k == 1) = false ∨ ((k : Int) == 1) = true ∧ (k == 1) = true) := ⟨by by_cases h : k = 1 <;> simp [h]; omega⟩
        have K2 : Aside0 (((k : Int) == 2) = false ∧ (k == 2) = false ∨ ((k : Int) == 2) = true ∧ (k == 2) = true) := ⟨by by_cases h : k = 2 <;> simp [h]; omega⟩
        have K3 : Aside0 (((k : Int) == 3) = false ∧ (k == 3) = false ∨ ((k : Int) == 3) = true ∧ (k == 3) = true) := ⟨by by_cases h : k = 3 <;> simp [h]; omega⟩
        have Q1 : Aside0 (((q1 : Int) == 1) = false ∧ (q1 == 1) = false ∨ ((q1 : Int) == 1) = true ∧ (q1 == 1) = true) := ⟨by by_cases h : q1 = 1 <;> simp [h]; omega⟩
        go_upto_region 9 with (first
          | (go_at_call 13; (with_reducible refine (CK.out _).mono ?_); rintro e w' ⟨rfl, rfl⟩)
          | (go_at_call 10; (with_reducible refine (N1.out _ (HT.out.below (Bel.out <| by repeat (first | assumption | exact Bel.refl _ | apply Bel.drewN | apply Bel.alloc | refine Bel.trans ?_ (by assumption))))).mono ?_); rintro e w' ⟨rfl, ⟨m, rfl⟩⟩))
        go_cut [40] (fun v40 wc => v40 = .bool false ∧ Bel w wc ∧ wc.cell? ⟨wr.heap.size, 0, none⟩ = some (.bool r))
        case first =>
          have z : b = true ∨ b = false ∧ ((q1 : Int) != st) = false := by
            have h := Y1.out
            cases b
            · simp at h
              exact Or.inr ⟨rfl, by simp [h]⟩
            · exact Or.inl rfl
          clear Y1 Y2 Y3 Y4 Y5 Y6 K1 K2 K3 Q1
          cases b
          · have z' : ((q1 : Int) != st) = false := by
              rcases z with h | h
              · cases h
              · exact h.2
            clear z
            go_wp2
            go_meet
            case rel => exact ⟨rfl, by repeat (first | assumption | exact Bel.refl _ | apply Bel.drewN | apply Bel.alloc | refine Bel.trans ?_ (by assumption)), by go_simp⟩
          · clear z
            go_wp2
            go_meet
            case rel => exact ⟨rfl, by repeat (first | assumption | exact Bel.refl _ | apply Bel.drewN | apply Bel.alloc | refine Bel.trans ?_ (by assumption)), by go_simp⟩
        case rest =>
          clear Y1 hB c1 c2
          obtain ⟨rfl, hbc, hcr⟩ := hcut
          go_upto_region 11 with (fail)
          go_cut [54] (fun v54 wd => v54 = .bool (g1 q1 k b r) ∧ wd = wc)
          case first =>
            clear Y2 Y3 Y4 Y5 Y6 K2 K3
            cases b
            · go_wp2
              go_meet
              case rel => exact ⟨by simp [g1], rfl⟩
            · rcases K1.out with ⟨h1, h2⟩ | ⟨h1, h2⟩
              · go_wp2
                go_meet
                case rel => exact ⟨by simp [g1, h2], rfl⟩
              · cases r
                · rcases Q1.out with ⟨h3, h4⟩ | ⟨h3, h4⟩
                  · go_wp2
                    go_meet
                    case rel => exact ⟨by simp [g1, h2, h4], rfl⟩
                  · go_wp2
                    go_meet
                    case rel => exact ⟨by simp [g1, h2, h4], rfl⟩
                · go_wp2
                  go_meet
                  case rel => exact ⟨by simp [g1, h2], rfl⟩
          case rest =>
            obtain ⟨rfl, rfl⟩ := hcut
            obtain ⟨g, hg⟩ : ∃ g, g = g1 q1 k b r := ⟨_, rfl⟩
            rw [← hg] at Y2 Y4 Y5 Y6 ⊢
            clear hg
            go_upto_if 54 with (fail)
            go_cut [4, 5, 6, 7] (fun v4 v5 v6 v7 we => v4 = .bool (g || syn) ∧ v5 = .bool (!g && both) ∧ v6 = .bool (!g && cross) ∧ v7 = .bool (!g && ack) ∧ we = wc)
            case first =>
              clear Y2 Y3 Y4 Y5 Y6 K1 K2 K3 Q1
              cases g
              all_goals
                go_wp2
                go_meet
                case rel => exact ⟨by simp, by simp, by simp, by simp, rfl⟩
            case rest =>
              obtain ⟨rfl, rfl, rfl, rfl, rfl⟩ := hcut
              obtain ⟨s1, hs1⟩ : ∃ s1, s1 = (g || syn) := ⟨_, rfl⟩
              obtain ⟨b1, hb1⟩ : ∃ b1, b1 = (!g && both) := ⟨_, rfl⟩
              obtain ⟨x1, hx1⟩ : ∃ x1, x1 = (!g && cross) := ⟨_, rfl⟩
              obtain ⟨a1, ha1⟩ : ∃ a1, a1 = (!g && ack) := ⟨_, rfl⟩
              rw [← hs1, ← hb1, ← hx1, ← ha1] at Y2 ⊢
              rw [← hs1] at Y4
              rw [← hs1, ← hx1] at Y5
              rw [← hs1, ← hb1, ← hx1] at Y6
              clear hs1 hb1 hx1 ha1
              go_upto_region 13 with (fail)
              go_cut [63] (fun v63 wd => v63 = .bool (b && k == 1 && r) ∧ wd = wc)
              case first =>
                clear Y2 Y3 Y4 Y5 Y6 K2 K3 Q1
                cases b
                · go_wp2
                  go_meet
                  case rel => exact ⟨by simp, rfl⟩
                · rcases K1.out with ⟨h1, h2⟩ | ⟨h1, h2⟩
                  · go_wp2
                    go_meet
                    case rel => exact ⟨by simp [h2], rfl⟩
                  · cases r
                    all_goals
                      go_wp2
                      go_meet
                      case rel => exact ⟨by simp [h2], rfl⟩
              case rest =>
                obtain ⟨rfl, rfl⟩ := hcut
                obtain ⟨g2, hg2⟩ : ∃ g2, g2 = (b && k == 1 && r) := ⟨_, rfl⟩
                rw [← hg2] at Y2 Y5 Y6 ⊢
                clear hg2
                go_upto_if 63 with (fail)
                go_cut [6] (fun v6 we => v6 = .bool (x1 || g2) ∧ we = wc)
                case first =>
                  clear Y2 Y3 Y4 Y5 Y6 K2 K3 Q1
                  cases g2
                  all_goals
                    go_wp2
                    go_meet
                    case rel => exact ⟨by simp, rfl⟩
                case rest =>
                  obtain ⟨rfl, rfl⟩ := hcut
                  obtain ⟨x2, hx2⟩ : ∃ x2, x2 = (x1 || g2) := ⟨_, rfl⟩
                  rw [← hx2] at Y2 Y5 Y6 ⊢
                  clear hx2
                  go_upto_region 15 with (fail)
                  go_cut [78] (fun v78 wd => v78 = .bool (b && k == 2 && (r || x2) && s1) ∧ wd = wc)
                  case first =>
                    clear Y2 Y3 Y4 Y5 Y6 K3 Q1
                    cases b
                    · go_wp2
                      go_meet
                      case rel => exact ⟨by simp, rfl⟩
                    · rcases K2.out with ⟨h1, h2⟩ | ⟨h1, h2⟩
                      · go_wp2
                        go_meet
                        case rel => exact ⟨by simp [h2], rfl⟩
                      · cases r
                        · cases x2
                          · go_wp2
                            go_meet
                            case rel => exact ⟨by simp [h2], rfl⟩
                          · go_wp2
                            go_meet
                            case rel => exact ⟨by simp [h2], rfl⟩
                        · go_wp2
                          go_meet
                          case rel => exact ⟨by simp [h2], rfl⟩
                  case rest =>
                    obtain ⟨rfl, rfl⟩ := hcut
                    obtain ⟨g3, hg3⟩ : ∃ g3, g3 = (b && k == 2 && (r || x2) && s1) := ⟨_, rfl⟩
                    rw [← hg3] at Y2 Y6 ⊢
                    clear hg3
                    go_upto_if 78 with (fail)
                    go_cut [5] (fun v5 we => v5 = .bool (b1 || g3) ∧ we = wc)
                    case first =>
                      clear Y2 Y3 Y4 Y5 Y6 K2 K3 Q1
                      cases g3
                      all_goals
                        go_wp2
                        go_meet
                        case rel => exact ⟨by simp, rfl⟩
                    case rest =>
                      obtain ⟨rfl, rfl⟩ := hcut
                      obtain ⟨b2, hb2⟩ : ∃ b2, b2 = (b1 || g3) := ⟨_, rfl⟩
                      rw [← hb2] at Y2 Y6 ⊢
                      clear hb2
                      go_upto_region 17 with (fail)
                      go_cut [91] (fun v91 wd => v91 = .bool (b && k == 3 && !r && b2) ∧ wd = wc)
                      case first =>
                        clear Y2 Y3 Y4 Y5 Y6 K2 Q1
                        cases b
                        · go_wp2
                          go_meet
                          case rel => exact ⟨by simp, rfl⟩
                        · rcases K3.out with ⟨h1, h2⟩ | ⟨h1, h2⟩
                          · go_wp2
                            go_meet
                            case rel => exact ⟨by simp [h2], rfl⟩
                          · cases r
                            all_goals
                              go_wp2
                              go_meet
                              case rel => exact ⟨by simp [h2], rfl⟩
                      case rest =>
                        obtain ⟨rfl, rfl⟩ := hcut
                        obtain ⟨g4, hg4⟩ : ∃ g4, g4 = (b && k == 3 && !r && b2) := ⟨_, rfl⟩
                        rw [← hg4] at Y2 ⊢
                        clear hg4
                        go_upto_if 91 with (fail)
                        go_cut [7] (fun v7 we => v7 = .bool (a1 || g4) ∧ we = wc)
                        case first =>
                          clear Y2 Y3 Y4 Y5 Y6 K2 K3 Q1
                          cases g4
                          all_goals
                            go_wp2
                            go_meet
                            case rel => exact ⟨by simp, rfl⟩
                        case rest =>
                          obtain ⟨rfl, rfl⟩ := hcut
                          obtain ⟨a2, ha2⟩ : ∃ a2, a2 = (a1 || g4) := ⟨_, rfl⟩
                          rw [← ha2] at Y2 ⊢
                          clear ha2 K2 K3 Q1 hcr
                          have inv2 : invB q1 s1 b2 x2 a2 = true := by
                            have z2 := Y2.out
                            have z4 := Y4.out
                            have z5 := Y5.out
                            have z6 := Y6.out
                            unfold invB
                            simp only [Bool.and_eq_true]
                            exact ⟨⟨⟨z4, z5⟩, z6⟩, z2⟩
                          have INV := Aside0.mk inv2
                          have z2 : ((q1 : Int) == 4) = false ∧ ((q1 : Int) != 4) = true ∨ (((q1 : Int) == 4) = true ∧ ((q1 : Int) != 4) = false) ∧ s1 = true ∧ b2 = true ∧ a2 = true := by
                            have h := Y2.out
                            by_cases e : q1 = 4
                            · simp [e] at h
                              exact Or.inr ⟨by simp [e], h.1.1, h.1.2, h.2⟩
                            · exact Or.inl ⟨by simp; omega, by simp; omega⟩
                          have z3 : ((st : Int) == 4) = false ∨ ((st : Int) == 4) = true ∧ (((q1 : Int) != 4) = false ∨ ((k : Int) != 4) = false ∨ ((k : Int) != 4) = true ∧ ((k : Int) != 5) = false) := by
                            have h := Y3.out
                            by_cases e : st = 4
                            · simp [e] at h
                              refine Or.inr ⟨by simp [e], ?_⟩
                              rcases h with (h | h) | h
                              · exact Or.inl (by simp [h])
                              · exact Or.inr (Or.inl (by simp [h]))
                              · exact Or.inr (Or.inr ⟨by simp [h], by simp [h]⟩)
                            · exact Or.inl (by simp; omega)
                          have Z3 := Aside0.mk z3
                          have Z2 := Aside0.mk z2
                          clear Y2 Y3 Y4 Y5 Y6 inv2 z2 z3
                          go_upto_region 19 with (fail)
                          go_cut [4, 5, 7, 105] (fun v4 v5 v7 v105 wd => v4 = .bool s1 ∧ v5 = .bool b2 ∧ v7 = .bool a2 ∧ v105 = .bool false ∧ wd = wc)
                          case first =>
                            clear Z3
                            rcases Z2.out with ⟨h1, _⟩ | ⟨⟨h1, _⟩, h2, h3, h4⟩
                            · go_wp2
                              go_meet
                              case rel => exact ⟨rfl, rfl, rfl, rfl, rfl⟩
                            · go_wp2
                              go_meet
                              case rel => exact ⟨by simp [h2], by simp [h3], by simp [h4], rfl, rfl⟩
                          case rest =>
                            obtain ⟨rfl, rfl, rfl, rfl, rfl⟩ := hcut
                            go_upto_region 21 with (fail)
                            go_cut [119] (fun v119 wd => v119 = .bool false ∧ wd = wc)
                            case first =>
                              rcases Z3.out with h | ⟨h, h1 | h1 | ⟨h1, h2⟩⟩
                              · clear Z2
                                go_wp2
                                go_meet
                                case rel => exact ⟨rfl, rfl⟩
                              · clear Z2
                                go_wp2
                                go_meet
                                case rel => exact ⟨rfl, rfl⟩
                              · rcases Z2.out with ⟨_, h5⟩ | ⟨⟨_, h5⟩, _⟩
                                all_goals
                                  clear Z2
                                  go_wp2
                                  go_meet
                                  case rel => exact ⟨rfl, rfl⟩
                              · rcases Z2.out with ⟨_, h5⟩ | ⟨⟨_, h5⟩, _⟩
                                all_goals
                                  clear Z2
                                  go_wp2
                                  go_meet
                                  case rel => exact ⟨rfl, rfl⟩
                            case rest =>
                              obtain ⟨rfl, rfl⟩ := hcut
                              clear Z2 Z3
                              go_wp2
                              go_roundw
                              case rel => exact ⟨i + 1, q1, s1, b2, x2, a2, by omega, HQL.out, by go_num, rfl, rfl, rfl, rfl, rfl, INV, by repeat (first | assumption | exact Bel.refl _ | apply Bel.drewN | apply Bel.alloc | refine Bel.trans ?_ (by assumption))⟩
                              case measure => simp [intOf]; omega
    · go_wp2_with (first
        | (go_at_call 12; (with_reducible refine (wakes_any _ (HT.out.below (Bel.out <| by repeat (first | assumption | exact Bel.refl _ | apply Bel.drewN | apply Bel.alloc | refine Bel.trans ?_ (by assumption)))) (HO.out.below (Bel.out <| by repeat (first | assumption | exact Bel.refl _ | apply Bel.drewN | apply Bel.alloc | refine Bel.trans ?_ (by assumption))))).mono ?_); rintro e w9 ⟨rfl, hb⟩; replace hb := Bel.mk hb))
      go_ret
      refine ⟨rfl, Bel.out ?_⟩
      exact by repeat (first | assumption | exact Bel.refl _ | apply Bel.drewN | apply Bel.alloc | refine Bel.trans ?_ (by assumption))
end Go.Proofs.YtpheeljemkpnaaaDoor.AW
