import Derived.Test.YtpheeljemkpnaaaDoorD
import Derived.Test.YtpheeljemkpnaaaDoorK
import Derived.Test.YtpheeljemkpnaaaDoorPStateTellsx
namespace Go.Proofs.YtpheeljemkpnaaaDoor.AW
open Go.BigFrame Go.RowKit Go.Proofs.YtpheeljemkpnaaaDoorW.PrintWords Go.Proofs.YtpheeljemkpnaaaDoorW.PrintLast Go.Proofs.YtpheeljemkpnaaaDoorW.PrintMore
set_option linter.unusedVariables false
set_option linter.unusedSimpArgs false
set_option maxRecDepth 100000

def ticksL : List Int := [0, 120, 120, 60, 432000, 120, 120, 30, 60, 10]
def textsL : List ByteArray := [⟨#[110, 111, 110, 101]⟩, ⟨#[115, 101, 110, 116]⟩, ⟨#[99, 114, 111, 115, 115, 101, 100]⟩, ⟨#[97, 110, 115, 119, 101, 114, 101, 100]⟩, ⟨#[111, 112, 101, 110]⟩, ⟨#[104, 97, 108, 102, 45, 97]⟩, ⟨#[104, 97, 108, 102, 45, 98]⟩, ⟨#[104, 97, 108, 118, 101, 115]⟩, ⟨#[108, 97, 115, 116]⟩, ⟨#[103, 111, 110, 101]⟩]
def tickN (s : Nat) : Int := ticksL.getD s 0
def textN (s : Nat) : ByteArray := textsL.getD s ByteArray.empty
structure Ticx (w : World) : Prop where
  at_ : ∀ s : Nat, s < 10 → w.cell? ⟨2, s, none⟩ = some (.int .i64 (tickN s))
structure Txts (w : World) : Prop where
  at_ : ∀ s : Nat, s < 10 → w.cell? ⟨3, s, none⟩ = some (.string (textN s))
theorem Ticx.below {w w1 : World} (h : Ticx w) (hb : Below w.heap.size w w1) : Ticx w1 := ⟨fun s hs => pw_cell_below hb (h.at_ s hs)⟩
theorem Txts.below {w w1 : World} (h : Txts w) (hb : Below w.heap.size w w1) : Txts w1 := ⟨fun s hs => pw_cell_below hb (h.at_ s hs)⟩

theorem ticks_in (s : Nat) (hs : s < 10) (w : World) (hT : Ticx w) : Calls Tryd.prog 17 #[.int .i64 s] w fun e w' => e = .returned (.int .i64 (tickN s)) ∧ Drawn0 w w' := by
  have hc := hT.at_ s hs
  clear hT
  go_enter Tryd.func17, Tryd.ntmps17
  go_wp2_with (go_at_call 21; refine (may_yes s (by omega) (by omega) _).mono ?_; rintro e w' ⟨rfl, rfl⟩)
  all_goals go_ret
  all_goals exact ⟨rfl, by repeat (first | exact Drawn0.refl _ | apply Drawn0.step)⟩
theorem ticks_out (s : Int) (h : s < 0 ∨ 10 ≤ s) (w : World) : Calls Tryd.prog 17 #[.int .i64 s] w fun e w' => e = .returned (.int .i64 0) ∧ Drawn0 w w' := by
  go_enter Tryd.func17, Tryd.ntmps17
  go_wp2_with (go_at_call 21; refine (may_no s h _).mono ?_; rintro e w' ⟨rfl, rfl⟩)
  all_goals go_ret
  all_goals exact ⟨rfl, by repeat (first | exact Drawn0.refl _ | apply Drawn0.step)⟩
theorem text_in (s : Nat) (hs : s < 10) (w : World) (hT : Txts w) : Calls Tryd.prog 19 #[.int .i64 s] w fun e w' => e = .returned (.string (textN s)) ∧ Drawn0 w w' := by
  have hc := hT.at_ s hs
  clear hT
  generalize textN s = x at hc ⊢
  go_enter Tryd.func19, Tryd.ntmps19
  go_wp2_with (go_at_call 21; refine (may_yes s (by omega) (by omega) _).mono ?_; rintro e w' ⟨rfl, rfl⟩)
  all_goals go_ret
  all_goals exact ⟨rfl, by repeat (first | exact Drawn0.refl _ | apply Drawn0.step)⟩
theorem text_out (s : Int) (h : s < 0 ∨ 10 ≤ s) (w : World) : Calls Tryd.prog 19 #[.int .i64 s] w fun e w' => e = .returned (.string ⟨#[]⟩) ∧ Drawn0 w w' := by
  go_enter Tryd.func19, Tryd.ntmps19
  go_wp2_with (go_at_call 21; refine (may_no s h _).mono ?_; rintro e w' ⟨rfl, rfl⟩)
  all_goals go_ret
  all_goals exact ⟨rfl, by repeat (first | exact Drawn0.refl _ | apply Drawn0.step)⟩

theorem reft_all : ∀ s : Nat, s < 10 → PStateTells.tollref27_Ticks.f 20 (s : Int) = some (tickN s) := by decide +kernel
theorem refx_all : ∀ s : Nat, s < 10 → PStateTells.tollref27_Text.f (s : Int) = some (textN s) := by decide +kernel
theorem reft_out (s : Int) (h : s < 0 ∨ 10 ≤ s) : PStateTells.tollref27_Ticks.f 20 s = some 0 := by
  unfold PStateTells.tollref27_Ticks.f
  rw [if_neg (by omega), if_neg (by omega), if_neg (by omega)]
  have e6 : (s == 6) = false := by simp; omega
  have e3 : (s == 3) = false := by simp; omega
  have e8 : (s == 8) = false := by simp; omega
  simp [PStateTells.tollref27_Ticks.j0, PStateTells.tollref27_Ticks.j1, e6, e3, e8, show ¬ s = 3 by omega, show ¬ s = 4 by omega, show ¬ s = 7 by omega, show ¬ s = 9 by omega]
theorem refx_out (s : Int) (h : s < 0 ∨ 10 ≤ s) : PStateTells.tollref27_Text.f s = some ⟨#[]⟩ := by
  unfold PStateTells.tollref27_Text.f
  simp only [Option.bind_some]
  rcases h with h | h
  · rw [if_pos h]
  · rw [if_neg (by omega), if_pos (by omega)]

theorem ref_out_f (s : Int) (h : s < 0 ∨ 10 ≤ s) (r : Bool) (f : Int) (h0 : 0 ≤ f) (h1 : f ≤ 255) : PStateRuns.tollref27_Next.f 20 s r f = some (s, false) := by
  unfold PStateRuns.tollref27_Next.f
  rw [refkind f h0 h1]
  simp only [Option.bind_some]
  rcases h with h | h
  · rw [if_pos h]; rfl
  · rw [if_neg (by omega), if_pos (by omega)]; rfl

set_option maxHeartbeats 2000000 in
theorem tells_in (s : Nat) (hs : s < 10) (r : Bool) (f : Int) (h0 : 0 ≤ f) (h1 : f ≤ 255) (w : World) (hT : Tabs w) (hO : Opn w) (hK : Ticx w) (hX : Txts w) :
    Calls Tryd.prog 7 #[.int .i64 s, .bool r, .int .u8 f] w fun e w' => e = .returned (.bool true) ∧ Below w.heap.size w w' := by
  have HT := Aside0.mk hT
  have HO := Aside0.mk hO
  have HK := Aside0.mk hK
  have HX := Aside0.mk hX
  have c13 := Aside0.mk (kind_calls f)
  have c16 := Aside0.mk (fun w => PStateRuns.tollref27_Kind.calls 20 f _ w (refkind f h0 h1))
  have c10 := Aside0.mk (next_any s hs r f)
  have c11 := Aside0.mk (ref_next s hs r f h0 h1)
  have c17 := Aside0.mk (ticks_in s hs)
  have c18 := Aside0.mk (fun w => PStateTells.tollref27_Ticks.calls 20 s _ w (reft_all s hs))
  have c19 := Aside0.mk (text_in s hs)
  have c20 := Aside0.mk (fun w => PStateTells.tollref27_Text.calls s _ w (refx_all s hs))
  clear hT hO hK hX h0 h1
  generalize kindOf f = kf at c13 c16
  generalize stepN s r f = q at c10 c11
  generalize tickN s = tk at c17 c18
  generalize textN s = tx at c19 c20
  go_enter Tryd.func7, Tryd.ntmps7
  go_wp2_with (first
    | (go_at_call 10; (with_reducible refine (c10.out _ HT.out).mono ?_); rintro e w' ⟨rfl, ⟨m, rfl⟩⟩)
    | (go_at_call 11; (with_reducible refine (c11.out _).mono ?_); rintro e w1 ⟨rfl, hb⟩; replace hb := Bel.mk hb)
    | (go_at_call 13; (with_reducible refine (c13.out _).mono ?_); rintro e w' ⟨rfl, rfl⟩)
    | (go_at_call 16; (with_reducible refine (c16.out _).mono ?_); rintro e w' ⟨rfl, ⟨m2, rfl⟩⟩)
    | (go_at_call 17; (with_reducible refine (c17.out _ (HK.out.below (Bel.out <| by repeat (first | assumption | exact Bel.refl _ | apply Bel.drewN | apply Bel.alloc | refine Bel.trans ?_ (by assumption))))).mono ?_); rintro e w' ⟨rfl, ⟨m3, rfl⟩⟩)
    | (go_at_call 18; (with_reducible refine (c18.out _).mono ?_); rintro e w' ⟨rfl, ⟨m4, rfl⟩⟩)
    | (go_at_call 19; (with_reducible refine (c19.out _ (HX.out.below (Bel.out <| by repeat (first | assumption | exact Bel.refl _ | apply Bel.drewN | apply Bel.alloc | refine Bel.trans ?_ (by assumption))))).mono ?_); rintro e w' ⟨rfl, ⟨m5, rfl⟩⟩)
    | (go_at_call 20; (with_reducible refine (c20.out _).mono ?_); rintro e w2 ⟨rfl, hb⟩; replace hb := Bel.mk hb)
    | (go_at_call 12; (with_reducible refine (wakes_any _ (HT.out.below (Bel.out <| by repeat (first | assumption | exact Bel.refl _ | apply Bel.drewN | apply Bel.alloc | refine Bel.trans ?_ (by assumption)))) (HO.out.below (Bel.out <| by repeat (first | assumption | exact Bel.refl _ | apply Bel.drewN | apply Bel.alloc | refine Bel.trans ?_ (by assumption))))).mono ?_); rintro e w3 ⟨rfl, hb⟩; replace hb := Bel.mk hb))
  go_ret
  refine ⟨rfl, Bel.out ?_⟩
  exact (by repeat (first | assumption | exact Bel.refl _ | apply Bel.drewN | apply Bel.alloc | refine Bel.trans ?_ (by assumption)))

theorem tells_out (s : Int) (hs : s < 0 ∨ 10 ≤ s) (r : Bool) (f : Int) (h0 : 0 ≤ f) (h1 : f ≤ 255) (w : World) (hT : Tabs w) (hO : Opn w) :
    Calls Tryd.prog 7 #[.int .i64 s, .bool r, .int .u8 f] w fun e w' => e = .returned (.bool true) ∧ Below w.heap.size w w' := by
  have HT := Aside0.mk hT
  have HO := Aside0.mk hO
  have c13 := Aside0.mk (kind_calls f)
  have c16 := Aside0.mk (fun w => PStateRuns.tollref27_Kind.calls 20 f _ w (refkind f h0 h1))
  have c10 := Aside0.mk (fun w => next_out s r f w hs)
  have c11 := Aside0.mk (fun w => PStateRuns.tollref27_Next.calls 20 s r f _ _ w (ref_out_f s hs r f h0 h1))
  have c17 := Aside0.mk (fun w => ticks_out s hs w)
  have c18 := Aside0.mk (fun w => PStateTells.tollref27_Ticks.calls 20 s _ w (reft_out s hs))
  have c19 := Aside0.mk (fun w => text_out s hs w)
  have c20 := Aside0.mk (fun w => PStateTells.tollref27_Text.calls s _ w (refx_out s hs))
  clear hT hO h0 h1 hs
  generalize kindOf f = kf at c13 c16
  go_enter Tryd.func7, Tryd.ntmps7
  go_wp2_with (first
    | (go_at_call 10; (with_reducible refine (c10.out _).mono ?_); rintro e w' ⟨rfl, ⟨m, rfl⟩⟩)
    | (go_at_call 11; (with_reducible refine (c11.out _).mono ?_); rintro e w1 ⟨rfl, hb⟩; replace hb := Bel.mk hb)
    | (go_at_call 13; (with_reducible refine (c13.out _).mono ?_); rintro e w' ⟨rfl, rfl⟩)
    | (go_at_call 16; (with_reducible refine (c16.out _).mono ?_); rintro e w' ⟨rfl, ⟨m2, rfl⟩⟩)
    | (go_at_call 17; (with_reducible refine (c17.out _).mono ?_); rintro e w' ⟨rfl, ⟨m3, rfl⟩⟩)
    | (go_at_call 18; (with_reducible refine (c18.out _).mono ?_); rintro e w' ⟨rfl, ⟨m4, rfl⟩⟩)
    | (go_at_call 19; (with_reducible refine (c19.out _).mono ?_); rintro e w' ⟨rfl, ⟨m5, rfl⟩⟩)
    | (go_at_call 20; (with_reducible refine (c20.out _).mono ?_); rintro e w2 ⟨rfl, hb⟩; replace hb := Bel.mk hb)
    | (go_at_call 12; (with_reducible refine (wakes_any _ (HT.out.below (Bel.out <| by repeat (first | assumption | exact Bel.refl _ | apply Bel.drewN | apply Bel.alloc | refine Bel.trans ?_ (by assumption)))) (HO.out.below (Bel.out <| by repeat (first | assumption | exact Bel.refl _ | apply Bel.drewN | apply Bel.alloc | refine Bel.trans ?_ (by assumption))))).mono ?_); rintro e w3 ⟨rfl, hb⟩; replace hb := Bel.mk hb))
  go_ret
  refine ⟨rfl, Bel.out ?_⟩
  exact (by repeat (first | assumption | exact Bel.refl _ | apply Bel.drewN | apply Bel.alloc | refine Bel.trans ?_ (by assumption)))
theorem tells_law (s : Int) (r : Bool) (f : Int) (h0 : 0 ≤ f) (h1 : f ≤ 255) (w : World) (hT : Tabs w) (hO : Opn w) (hK : Ticx w) (hX : Txts w) :
    Calls Tryd.prog 7 #[.int .i64 s, .bool r, .int .u8 f] w fun e w' => e = .returned (.bool true) ∧ Below w.heap.size w w' := by
  by_cases h : s < 0 ∨ 10 ≤ s
  · exact tells_out s h r f h0 h1 w hT hO
  · have := tells_in s.toNat (by omega) r f h0 h1 w hT hO hK hX
    rwa [Int.toNat_of_nonneg (by omega)] at this
end Go.Proofs.YtpheeljemkpnaaaDoor.AW
