import Derived.Test.YtjdpoliamcnkbaaDoorSteps
import Derived.Maps.Keyed
import Derived.Maps.Own
import Derived.Maps.OwnOps
import Derived.Maps.OwnSet
import Derived.Maps.Views
namespace Go.Proofs.YtjdpoliamcnkbaaDoor.T
open Go.BigFrame Go.RowKit Go.Maps Go.Proofs.YtjdpoliamcnkbaaDoorW.PrintWords
set_option linter.unusedVariables false
set_option linter.unusedSimpArgs false
set_option maxRecDepth 100000

/-! icmp.kinds -/
def kindsD {H : Type} : DataW H := .map [(.int .u8 0, .lit (.int .i64 3)), (.int .u8 3, .lit (.int .i64 1)), (.int .u8 4, .lit (.int .i64 1)), (.int .u8 5, .lit (.int .i64 1)), (.int .u8 8, .lit (.int .i64 2)), (.int .u8 11, .lit (.int .i64 1)), (.int .u8 12, .lit (.int .i64 1)), (.int .u8 13, .lit (.int .i64 2)), (.int .u8 14, .lit (.int .i64 3)), (.int .u8 15, .lit (.int .i64 2)), (.int .u8 16, .lit (.int .i64 3)), (.int .u8 17, .lit (.int .i64 2)), (.int .u8 18, .lit (.int .i64 3))]
/-- The kind of a type. -/
def kindN (t : Int) : Int :=
  if t = 3 ∨ t = 4 ∨ t = 5 ∨ t = 11 ∨ t = 12 then 1 else if t = 8 ∨ t = 13 ∨ t = 15 ∨ t = 17 then 2 else if t = 0 ∨ t = 14 ∨ t = 16 ∨ t = 18 then 3 else 0
def isKind (t : Nat) : Bool := match (kindsD : DataW Unit).atKey (.int .u8 (t : Int)) (.lit (.int .i64 0)) with | .lit (.int .i64 n) => n == kindN t | _ => false
theorem isKind_all : ∀ t : Nat, t < 256 → isKind t = true := by decide +kernel
theorem kind_at (t : Int) (h0 : 0 ≤ t) (h1 : t ≤ 255) (c : Int) (h : (kindsD : DataW Unit).atKey (.int .u8 t) (.lit (.int .i64 0)) = .lit (.int .i64 c)) : c = kindN t := by
  have := isKind_all t.toNat (by omega)
  unfold isKind at this
  rw [Int.toNat_of_nonneg h0, h] at this
  simpa using this
theorem kindN_range (t : Int) : 0 ≤ kindN t ∧ kindN t ≤ 3 := by unfold kindN; repeat' split <;> try omega

/-- The table of kinds, as it lies. -/
def Kinds (w : World) : Prop := ∃ bm n, w.cell? ⟨0, 0, none⟩ = some (.map (some bm)) ∧ w.ownsMap (H := Unit) Tryd.prog 5 (plainElem Tryd.prog 3) bm n kindsD
theorem Kinds.bel {w w1 : World} (h : Kinds w) (hb : Bel w w1) : Kinds w1 := by
  obtain ⟨bm, n, h1, h2⟩ := h
  exact ⟨bm, n, hb.cell h1, h2.kept (grown_of_below hb none) (by simp)⟩
theorem Kinds.look {w : World} (h : Kinds w) (t : Int) (h0 : 0 ≤ t) (h1 : t ≤ 255) : ∃ bm, w.cell? ⟨0, 0, none⟩ = some (.map (some bm)) ∧ (Instr.lookup 62 (.map (some bm)) (.int .u8 t) false).run Tryd.prog w = .ok (.int .i64 (kindN t)) w := by
  obtain ⟨bm, n, hc, ho⟩ := h
  have wf : (Lit.int .u8 t).wf = true := by simp [Lit.wf, IntKind.min, IntKind.max, IntKind.signed, IntKind.bits]; omega
  obtain ⟨c, hr, ha, _⟩ := ho.lookup_int (int_keyed Tryd.underlying5) Tryd.underlying62 Tryd.underlying3 (by kernel_rfl) (keyOf_int_mk Tryd.underlying5 wf)
  obtain rfl := kind_at t h0 h1 c ha
  exact ⟨bm, hc, hr⟩

set_option maxHeartbeats 1000000 in
theorem kind_any (t c r0 r1 r2 r3 : Int) (A : Option Addr) (n cp : Nat) (h0 : 0 ≤ t) (h1 : t ≤ 255) (w : World) (hK : Kinds w) :
    Calls Tryd.prog 10 #[.agg #[.int .u8 t, .int .u8 c, .int .u8 r0, .int .u8 r1, .int .u8 r2, .int .u8 r3, .slice A n cp]] w fun e w' => e = .returned (.int .i64 (kindN t)) ∧ w.alloc (.cells #[.int .u8 t, .int .u8 c, .int .u8 r0, .int .u8 r1, .int .u8 r2, .int .u8 r3, .slice A n cp] 25) = w' := by
  have hK' := hK.bel (Bel.alloc (Bel.refl w) (.cells #[.int .u8 t, .int .u8 c, .int .u8 r0, .int .u8 r1, .int .u8 r2, .int .u8 r3, .slice A n cp] 25))
  obtain ⟨bm, hc, hr⟩ := hK'.look t h0 h1
  clear hK hK'
  generalize kindN t = k at hr ⊢
  go_enter Tryd.func10, Tryd.ntmps10
  go_wp2
  go_ret
  exact ⟨rfl, rfl⟩
end Go.Proofs.YtjdpoliamcnkbaaDoor.T
