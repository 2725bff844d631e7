import Derived.Test.YtjdpoliamcnkbaaDoorIcmpPut
import Derived.Test.YtjdpoliamcnkbaaDoorIcmpBack
namespace Go.Proofs.YtjdpoliamcnkbaaDoor.T
open Go.BigFrame Go.RowKit Go.Maps Go.Proofs.YtjdpoliamcnkbaaDoorW.PrintWords
set_option linter.unusedVariables false
set_option linter.unusedSimpArgs false
set_option maxRecDepth 100000

theorem put_8 (w : World) : Calls Tryd.prog 15 #[.agg #[.int .u8 8, .int .u8 0, .int .u8 0, .int .u8 0, .int .u8 0, .int .u8 0, .slice none 0 0]] w fun e w' => ∃ v, e = .returned (.tuple #[v, .int .i64 0]) ∧ w'.ownsRow w.heap.size 5 1 v 8 (nums .u8 [8, 0, 247, 255, 0, 0, 0, 0]) ∧ Bel w w' := by
  have h := put_ok 8 0 0 0 0 0 none 0 0 [] w (by omega) rfl ⟨rfl, by omega, fun h => absurd h (by omega)⟩ (fun x hx => by cases hx) (fun x hx => by simp at hx; rcases hx with rfl | rfl <;> omega)
  have e : putB 8 0 0 0 0 0 [] = [8, 0, 247, 255, 0, 0, 0, 0] := by decide +kernel
  rw [e] at h
  exact h
theorem back_13 (w : World) (hK : Kinds w) : Calls Tryd.prog 9 #[.agg #[.int .u8 13, .int .u8 0, .int .u8 0, .int .u8 0, .int .u8 0, .int .u8 0, .slice none 0 0]] w fun e w' => e = .returned (.tuple #[.int .u8 14, .bool true]) ∧ Bel w w' := by
  have h := back_any 13 0 0 0 0 0 none 0 0 (by omega) (by omega) w hK
  have e : backN 13 = (14, true) := by decide
  rw [e] at h
  exact h

set_option maxHeartbeats 1000000 in
theorem tells8_any (w : World) (hK : Kinds w) : Calls Tryd.prog 11 #[] w fun e w' => e = .returned (.bool true) ∧ Bel w w' := by
  have HK := Aside0.mk hK
  clear hK
  go_enter Tryd.func11, Tryd.ntmps11
  go_wp2_with (first
    | (go_at_call 15; (with_reducible refine (put_8 _).mono ?_); rintro e w1 ⟨v, rfl, ho, hb⟩; have HO := Aside0.mk ho; clear ho)
    | (go_at_call 9; (with_reducible refine (back_13 _ (HK.out.bel (by repeat (first | assumption | exact Bel.refl _ | apply Bel.drewN | apply Bel.alloc | refine Bel.trans ?_ (by assumption))))).mono ?_); rintro e w2 ⟨rfl, hb2⟩
       have hcv := own_string (src := 23) (dst := 9) Tryd.underlying23 Tryd.underlying5 Tryd.underlying9 (hb2.own HO.out)
       rw [show strOfNums [8, 0, 247, 255, 0, 0, 0, 0] = (⟨#[8, 0, 247, 255, 0, 0, 0, 0]⟩ : ByteArray) by rfl] at hcv))
  go_ret
  exact ⟨rfl, hb.trans hb2⟩
end Go.Proofs.YtjdpoliamcnkbaaDoor.T
