import Derived.Test.YtpheeljemkpnaaaDoorG
import Derived.Test.YtpheeljemkpnaaaDoorF
namespace Go.Proofs.YtpheeljemkpnaaaDoor.AW
open Go.BigFrame Go.RowKit Go.Proofs.YtpheeljemkpnaaaDoorW.PrintWords Go.Proofs.YtpheeljemkpnaaaDoorW.PrintLast Go.Proofs.YtpheeljemkpnaaaDoorW.PrintMore
attribute [local go_sem] max2_int min2_int max_two min_two max_three min_three max_four min_four
set_option linter.unusedVariables false
set_option linter.unusedSimpArgs false
set_option maxRecDepth 100000

/-- What the tests of StateEnds ask, of a state, a side, a kind. -/
def endChk (s : Nat) (r : Bool) (k : Nat) : Bool :=
  let q := stepNK s r k
  (k != 0 || (!q.2 && q.1 == s)) && (k != 5 || s == 0 || (q.2 && q.1 == 9)) && ((s != 9 && s != 8) || ((q.1 == 1) == (k == 1 && !r))) && (s != 0 || (q.2 == (k == 1 && !r))) && (decide (0 < tickN s) == (s != 0)) && decide (tickN s ≤ 432000) && !(textN s).data.toList.isEmpty
theorem endChk_all : ∀ s, s < 10 → ∀ r : Bool, ∀ k, k < 6 → endChk s r k = true := by decide +kernel

set_option maxHeartbeats 2000000 in
/-- The body, behind the first run: every test's Bool at hand. -/
theorem ends_core (A : Option Addr) (n c : Nat) (m : Nat) (hm : m = n ∧ n ≤ 60 ∨ m = 60 ∧ 60 < n) (hl : n ≤ c) (hn : n ≤ 140737488351232) (r : Bool) (f : Int) (w : World) (hT : Tabs w) (hO : Opn w) (hK : Ticx w)
    (st k : Nat) (q : Nat × Bool) (tk : Int) (tx : ByteArray)
    (c14 : Calls Tryd.prog 14 #[.int .i64 0, .slice A m c] w fun e w' => e = .returned (.int .i64 (st : Nat)) ∧ Below w.heap.size w w')
    (c10 : ∀ W, Tabs W → Calls Tryd.prog 10 #[.int .i64 st, .bool r, .int .u8 f] W fun e w' => e = .returned (.tuple #[.int .i64 (q.1 : Nat), .bool q.2]) ∧ Drawn0 W w')
    (c13 : ∀ W, Calls Tryd.prog 13 #[.int .u8 f] W fun e w' => e = .returned (.int .i64 (k : Int)) ∧ W = w')
    (c17 : ∀ W, Ticx W → Calls Tryd.prog 17 #[.int .i64 st] W fun e w' => e = .returned (.int .i64 tk) ∧ Drawn0 W w')
    (c17' : ∀ W, Ticx W → Calls Tryd.prog 17 #[.int .i64 4] W fun e w' => e = .returned (.int .i64 432000) ∧ Drawn0 W w')
    (c19 : ∀ W, Below w.heap.size w W → Calls Tryd.prog 19 #[.int .i64 st] W fun e w' => e = .returned (.string tx) ∧ Drawn0 W w')
    (x1 : ((k : Int) == 0) = false ∨ ((k : Int) == 0) = true ∧ q.2 = false ∧ ((q.1 : Int) != st) = false)
    (x2 : ((k : Int) == 5) = false ∨ ((k : Int) == 5) = true ∧ ((st : Int) != 0) = false ∨ ((k : Int) == 5) = true ∧ ((st : Int) != 0) = true ∧ (!q.2) = false ∧ ((q.1 : Int) != 9) = false)
    (x3 : ((st : Int) == 9) = false ∧ ((st : Int) == 8) = false ∨ (((st : Int) == 9) = true ∨ ((st : Int) == 9) = false ∧ ((st : Int) == 8) = true) ∧ ((q.1 : Int) == 1) = false ∧ (((k : Int) == 1) = false ∨ ((k : Int) == 1) = true ∧ r = true) ∨ (((st : Int) == 9) = true ∨ ((st : Int) == 9) = false ∧ ((st : Int) == 8) = true) ∧ ((q.1 : Int) == 1) = true ∧ ((k : Int) == 1) = true ∧ r = false)
    (x4 : ((st : Int) == 0) = false ∧ ((st : Int) != 0) = true ∧ decide (0 < tk) = true ∨ ((st : Int) == 0) = true ∧ ((st : Int) != 0) = false ∧ decide (0 < tk) = false ∧ (q.2 = false ∧ (((k : Int) == 1) = false ∨ ((k : Int) == 1) = true ∧ r = true) ∨ q.2 = true ∧ ((k : Int) == 1) = true ∧ r = false))
    (x5 : tk ≤ 432000) (x6 : tx.toList.isEmpty = false) (x7 : ¬ tx.toList = []) :
    Calls Tryd.prog 8 #[.slice A n c, .bool r, .int .u8 f] w fun e w' => e = .returned (.bool true) ∧ Below w.heap.size w w' := by
  have HT := Aside0.mk hT
  have HO := Aside0.mk hO
  have HK := Aside0.mk hK
  have C14 := Aside0.mk c14
  have C10 := Aside0.mk c10
  have C13 := Aside0.mk c13
  have C17 := Aside0.mk c17
  have C17' := Aside0.mk c17'
  have C19 := Aside0.mk c19
  have X1 := Aside0.mk x1
  have X2 := Aside0.mk x2
  have X3 := Aside0.mk x3
  have X4 := Aside0.mk x4
  clear hT hO hK c14 c10 c13 c17 c17' c19 x1 x2 x3 x4
  have start : True := trivial
  rcases hm with ⟨rfl, hm⟩ | ⟨rfl, hm⟩
  all_goals
    go_enter Tryd.func8, Tryd.ntmps8
    go_upto_region 4 with (first
      | (go_at_call 14; (with_reducible refine C14.out.mono ?_); rintro e w1 ⟨rfl, hb⟩; replace hb := Bel.mk hb)
      | (go_at_call 10; (with_reducible refine (C10.out _ (HT.out.below (Bel.out <| by repeat (first | assumption | exact Bel.refl _ | apply Bel.drewN | apply Bel.alloc | refine Bel.trans ?_ (by assumption))))).mono ?_); rintro e w' ⟨rfl, ⟨m, rfl⟩⟩)
      | (go_at_call 13; (with_reducible refine (C13.out _).mono ?_); rintro e w' ⟨rfl, rfl⟩))
    go_cut [1, 9, 27] (fun v1 v9 v27 wc => v1 = .bool r ∧ v9 = .bool q.2 ∧ v27 = .bool false ∧ Bel w wc)
    case first =>
      rcases X1.out with h | ⟨h1, h2, h3⟩
      all_goals
        go_wp2
        go_meet
        case rel => exact ⟨by simp [*], by simp [*], rfl, by repeat (first | assumption | exact Bel.refl _ | apply Bel.drewN | apply Bel.alloc | refine Bel.trans ?_ (by assumption))⟩
    case rest =>
      clear X1
      obtain ⟨rfl, rfl, rfl, hbc⟩ := hcut
      go_upto_region 6 with (fail)
      go_cut [1, 9, 38] (fun v1 v9 v38 wd => v1 = .bool r ∧ v9 = .bool q.2 ∧ v38 = .bool false ∧ Bel w wd)
      case first =>
        rcases X2.out with h | ⟨h1, h2⟩ | ⟨h1, h2, h3, h4⟩
        all_goals
          go_wp2
          go_meet
          case rel => exact ⟨by simp [*], by simp [*], rfl, by repeat (first | assumption | exact Bel.refl _ | apply Bel.drewN | apply Bel.alloc | refine Bel.trans ?_ (by assumption))⟩
      case rest =>
        clear X2 hbc
        obtain ⟨rfl, rfl, rfl, hbd⟩ := hcut
        go_upto_region 8 with (fail)
        go_cut [1, 9, 53] (fun v1 v9 v53 we => v1 = .bool r ∧ v9 = .bool q.2 ∧ v53 = .bool false ∧ Bel w we)
        case first =>
          rcases X3.out with ⟨h1, h2⟩ | ⟨h1 | ⟨h1, h1'⟩, h2, h3 | ⟨h3, h4⟩⟩ | ⟨h1 | ⟨h1, h1'⟩, h2, h3, h4⟩
          all_goals
            go_wp2
            go_meet
            case rel => exact ⟨by simp [*], by simp [*], rfl, by repeat (first | assumption | exact Bel.refl _ | apply Bel.drewN | apply Bel.alloc | refine Bel.trans ?_ (by assumption))⟩
        case rest =>
          clear X3 hbd
          obtain ⟨rfl, rfl, rfl, hbe⟩ := hcut
          go_upto_region 10 with (fail)
          go_cut [1, 9, 71] (fun v1 v9 v71 wf => v1 = .bool r ∧ v9 = .bool q.2 ∧ v71 = .bool false ∧ Bel w wf)
          case first =>
            rcases X4.out with ⟨h1, h2, h3⟩ | ⟨h1, h2, h3, ⟨h4, h5 | ⟨h5, h6⟩⟩ | ⟨h4, h5, h6⟩⟩
            all_goals
              go_wp2
              go_meet
              case rel => exact ⟨by simp [*], by simp [*], rfl, by repeat (first | assumption | exact Bel.refl _ | apply Bel.drewN | apply Bel.alloc | refine Bel.trans ?_ (by assumption))⟩
          case rest =>
            clear hbe
            obtain ⟨rfl, rfl, rfl, hbf⟩ := hcut
            have x4 : ((st : Int) != 0) = true ∧ decide (0 < tk) = true ∨ ((st : Int) != 0) = false ∧ decide (0 < tk) = false := by
              rcases X4.out with ⟨h1, h2, h3⟩ | ⟨h1, h2, h3, _⟩
              · exact Or.inl ⟨h2, h3⟩
              · exact Or.inr ⟨h2, h3⟩
            clear X4
            rcases x4 with ⟨h1, h2⟩ | ⟨h1, h2⟩
            all_goals
              go_wp2_with (first
                | (go_at_call 17; (with_reducible refine (C17.out _ (HK.out.below (Bel.out <| by repeat (first | assumption | exact Bel.refl _ | apply Bel.drewN | apply Bel.alloc | refine Bel.trans ?_ (by assumption))))).mono ?_); rintro e w' ⟨rfl, ⟨m, rfl⟩⟩)
                | (go_at_call 17; (with_reducible refine (C17'.out _ (HK.out.below (Bel.out <| by repeat (first | assumption | exact Bel.refl _ | apply Bel.drewN | apply Bel.alloc | refine Bel.trans ?_ (by assumption))))).mono ?_); rintro e w' ⟨rfl, ⟨m2, rfl⟩⟩)
                | (go_at_call 19; (with_reducible refine (C19.out _ (Bel.out <| by repeat (first | assumption | exact Bel.refl _ | apply Bel.drewN | apply Bel.alloc | refine Bel.trans ?_ (by assumption)))).mono ?_); rintro e w' ⟨rfl, ⟨m3, rfl⟩⟩)
                | (go_at_call 12; (with_reducible refine (wakes_any _ (HT.out.below (Bel.out <| by repeat (first | assumption | exact Bel.refl _ | apply Bel.drewN | apply Bel.alloc | refine Bel.trans ?_ (by assumption)))) (HO.out.below (Bel.out <| by repeat (first | assumption | exact Bel.refl _ | apply Bel.drewN | apply Bel.alloc | refine Bel.trans ?_ (by assumption))))).mono ?_); rintro e w9 ⟨rfl, hb⟩; replace hb := Bel.mk hb))
              go_ret
              refine ⟨rfl, Bel.out ?_⟩
              exact (by repeat (first | assumption | exact Bel.refl _ | apply Bel.drewN | apply Bel.alloc | refine Bel.trans ?_ (by assumption)))

theorem neI {a b : Nat} (h : a ≠ b) : ((a : Int) == (b : Int)) = false := by simp; omega
theorem bytes_ne {x : ByteArray} (h : x.data.toList.isEmpty = false) : x.toList.isEmpty = false ∧ ¬ x.toList = [] := by
  have e : x.toList = x.data.toList := by
    exact ByteArray.toList_eq x
  rw [e]
  refine ⟨h, fun h' => ?_⟩
  rw [h'] at h
  cases h

theorem ends_law (ps : List (Bool × Int)) (A : Option Addr) (c : Nat) (r : Bool) (f : Int) (w : World) (hT : Tabs w) (hO : Opn w) (hK : Ticx w) (hX : Txts w) (hP : Parts w A ps) (hn : ps.length ≤ 140737488351232) (hl : ps.length ≤ c) :
    Calls Tryd.prog 8 #[.slice A ps.length c, .bool r, .int .u8 f] w fun e w' => e = .returned (.bool true) ∧ Below w.heap.size w w' := by
  obtain ⟨k, hk, ek⟩ := kind_range f
  have hst := runsN_lt (ps.take 60) 0 (by omega)
  obtain ⟨st, e⟩ : ∃ st, st = runsN 0 (ps.take 60) := ⟨_, rfl⟩
  rw [← e] at hst
  have chk := endChk_all st hst r k hk
  have hq := next_any st hst r f
  rw [stepN_k st r f k ek] at hq
  unfold endChk at chk
  obtain ⟨q, eq⟩ : ∃ q, q = stepNK st r k := ⟨_, rfl⟩
  rw [← eq] at chk hq
  simp only [Bool.and_eq_true, Bool.or_eq_true, Bool.not_eq_true', bne_iff_ne, beq_iff_eq, decide_eq_true_eq, ne_eq] at chk
  obtain ⟨⟨⟨⟨⟨⟨y1, y2⟩, y3⟩, y4⟩, y5⟩, y6⟩, y7⟩ := chk
  have hP6 : Parts w A (ps.take 60) := fun i hi => by
    have hi' : i < ps.length := by simp at hi; omega
    have := hP i hi'
    have hg : (ps.take 60).getD i default = ps.getD i default := by
      simp at hi
      simp [List.getD, List.getElem?_take, show i < 60 by omega]
    rw [hg]
    exact this
  have hr := runs_any 0 (by omega) (ps.take 60) A c w hT hP6 (by simp; omega)
  rw [← e] at hr
  have t4 : tickN 4 = 432000 := rfl
  have b7 := bytes_ne y7
  refine ends_core A ps.length c (ps.take 60).length (by simp; omega) hl hn r f w hT hO hK st k q (tickN st) (textN st) hr hq (fun W => by rw [← ek]; exact kind_calls f W) (fun W hW => ticks_in st hst W hW) (fun W hW => by rw [← t4]; exact ticks_in 4 (by omega) W hW)
    (fun W hW => text_in st hst W (hX.below hW)) ?_ ?_ ?_ ?_ y6 b7.1 b7.2
  · by_cases h : k = 0
    · rcases y1 with y1 | y1
      · exact absurd h y1
      · exact Or.inr ⟨by simp [h], y1.1, by simp [y1.2]⟩
    · exact Or.inl (by simpa using h)
  · by_cases h : k = 5
    · rcases y2 with (y2 | y2) | y2
      · exact absurd h y2
      · exact Or.inr (Or.inl ⟨by simp [h], by simp [y2]⟩)
      · by_cases hs : st = 0
        · exact Or.inr (Or.inl ⟨by simp [h], by simp [hs]⟩)
        · exact Or.inr (Or.inr ⟨by simp [h], by simp [hs], by simp [y2.1], by simp [y2.2]⟩)
    · exact Or.inl (by simp; omega)
  · by_cases h9 : st = 9 ∨ st = 8
    · have y : (q.1 == 1) = (k == 1 && !r) := by
        rcases y3 with y3 | y3
        · omega
        · exact y3
      have z : ((st : Int) == 9) = true ∨ ((st : Int) == 9) = false ∧ ((st : Int) == 8) = true := by
        rcases h9 with h | h <;> simp [h]
      by_cases h1 : k = 1
      · cases r
        · refine Or.inr (Or.inr ⟨z, ?_, by simp [h1], rfl⟩)
          simp [h1] at y
          simp [y]
        · refine Or.inr (Or.inl ⟨z, ?_, Or.inr ⟨by simp [h1], rfl⟩⟩)
          have y' : ¬ q.1 = 1 := by
            intro h
            rw [h] at y
            simp at y
          simp; omega
      · refine Or.inr (Or.inl ⟨z, ?_, Or.inl (by simp; omega)⟩)
        have y' : ¬ q.1 = 1 := by
          intro h
          rw [h] at y
          simp [h1] at y
        simp; omega
    · exact Or.inl ⟨by simp; omega, by simp; omega⟩
  · by_cases h0 : st = 0
    · have y : q.2 = (k == 1 && !r) := by
        rcases y4 with y4 | y4
        · omega
        · exact y4
      refine Or.inr ⟨by simp [h0], by simp [h0], by rw [y5]; simp [h0], ?_⟩
      by_cases h1 : k = 1
      · cases r
        · exact Or.inr ⟨by simp [y, h1], by simp [h1], rfl⟩
        · exact Or.inl ⟨by simp [y], Or.inr ⟨by simp [h1], rfl⟩⟩
      · exact Or.inl ⟨by simp [y, h1], Or.inl (by simp; omega)⟩
    · exact Or.inl ⟨by simp; omega, by simp; omega, by rw [y5]; simp [h0]⟩
end Go.Proofs.YtpheeljemkpnaaaDoor.AW
