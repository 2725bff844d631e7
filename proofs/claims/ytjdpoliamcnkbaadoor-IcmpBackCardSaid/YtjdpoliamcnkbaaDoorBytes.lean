import Derived.Test.YtjdpoliamcnkbaaDoorSteps
import Derived.Deep.RegionHeld3
import Derived.WalkSpells
namespace Go.Proofs.YtjdpoliamcnkbaaDoor.T
open Go.BigFrame Go.RowKit Go.Proofs.YtjdpoliamcnkbaaDoorW.PrintWords
set_option linter.unusedVariables false
set_option linter.unusedSimpArgs false
set_option maxRecDepth 100000

theorem infoU8b : (Tryd.prog.info? 5).map (fun i => (i.zero, i.size, i.bytes)) = some (some (.int .u8 0), 1, 1) := by kernel_rfl
/-- A cell behind its own store, said without its old value. -/
theorem cell_set_same (w : World) (p : Addr) (v : Value) : (w.setCell p v).cell? p = (w.cell? p).map (fun _ => v) := by
  cases h : w.cell? p with
  | some u => exact World.cell?_setCell_same w p v h
  | none =>
    simp only [Option.map_none]
    cases h2 : (w.setCell p v).cell? p with
    | none => rfl
    | some u =>
      exfalso
      revert h h2
      simp only [World.setCell, World.cell?, Array.getElem?_modify, if_true]
      cases hh : w.heap[p.block]? with
      | none => simp
      | some x =>
        cases x <;> simp
        cases p.spot <;> simp
        intros; first | omega | simp_all
theorem cell_set (w : World) (b i j : Nat) (v : Value) : (w.setCell ⟨b, i, none⟩ v).cell? ⟨b, j, none⟩ = if i = j then (w.cell? ⟨b, j, none⟩).map (fun _ => v) else w.cell? ⟨b, j, none⟩ := by
  by_cases e : i = j
  · subst e; rw [if_pos rfl]; exact cell_set_same w _ v
  · rw [if_neg e]; exact World.cell?_setCell_other w _ _ v (fun h => e (by injection h))
/-- A row of bytes that is read, its place said plainly. -/
theorem reads_plain {w : World} {k : IntKind} {A : Option Addr} {n : Nat} {xs : List Int} (h : ReadsInt w k A n xs) (hn : 0 < n) : ∃ b off, A = some ⟨b, off, none⟩ ∧ ∀ j, j < n → w.cell? ⟨b, off + j, none⟩ = some (.int k (xs.getD j 0)) := by
  obtain ⟨ad, rfl, hc⟩ := h.2.2 hn
  obtain ⟨b, off, spot⟩ := ad
  have hspot : spot = none := by simpa [Addr.add] using World.cell?_spot (hc 0 hn)
  subst hspot
  exact ⟨b, off, rfl, fun j hj => by rw [← Go.WideShapes.add_plain]; exact hc j hj⟩
theorem reads_len {w : World} {k : IntKind} {A : Option Addr} {n : Nat} {xs : List Int} (h : ReadsInt w k A n xs) : xs.length = n := h.1

/-! slices.Clone of bytes -/
theorem own_none (w : World) (base : Nat) (e : TypeId) : w.ownsRow base e 1 (.slice none 0 0) 0 (nums .u8 []) := own_nil w base e 1
theorem own_empty (w : World) (e : TypeId) : (w.alloc (.cells #[] e)).ownsRow w.heap.size e 1 (.slice (some ⟨w.heap.size, 0, none⟩) 0 0) 0 (nums .u8 []) := own_lit w w.heap.size e .u8 [] (Nat.le_refl _) (by simp)
set_option maxHeartbeats 1000000 in
theorem clone_nil (c : Nat) (w : World) : Calls Tryd.prog 27 #[.slice none 0 c] w fun e w' => e = .returned (.slice none 0 0) ∧ w = w' := by
  have hq := Lib.run_eql_slice_nil (P := Tryd.prog) w 23 5 none 0 c 0 0 Tryd.underlying23
  go_enter Tryd.func27, Tryd.ntmps27
  go_wp2
  go_ret
  exact ⟨rfl, rfl⟩
set_option maxHeartbeats 1000000 in
theorem clone_some (ad : Addr) (n c : Nat) (xs : List Int) (w : World) (hx : ReadsInt w .u8 (some ad) n xs) (hl : n ≤ 140737488351232) : Calls Tryd.prog 27 #[.slice (some ad) n c] w fun e w' => ∃ v, e = .returned v ∧ w'.ownsRow w.heap.size 5 1 v n (nums .u8 xs) ∧ Bel w w' := by
  have hq := Lib.run_eql_slice_nil (P := Tryd.prog) w 23 5 (some ad) n c 0 0 Tryd.underlying23
  have HX := Aside0.mk hx
  have HL := Aside0.mk (reads_len hx)
  clear hx
  go_enter Tryd.func27, Tryd.ntmps27
  go_wp2_with (first
    | (at_builtin; refine print_append_row (w0 := w) w.heap.size rfl (.tmp 5) (.tmp 6) 23 5 .u8 1 rfl Tryd.underlying23 infoU8b (by omega) _ [] xs (some ad) n c rfl rfl (own_empty w 5) ((Bel.alloc (Bel.refl w) _).reads HX.out) (Bel.alloc (Bel.refl w) _) (by simp) ?h1 ?_
       case h1 => simp; omega
       intro v2 w2 hown2 hbel _ _
       have HO := Aside0.mk hown2
       have HB := Aside0.mk (Bel.mk hbel)
       clear hown2 hbel))
  go_ret
  refine ⟨_, rfl, ?_, HB.out⟩
  have h := HO.out
  simp only [List.nil_append] at h
  rw [HL.out] at h
  exact h
end Go.Proofs.YtjdpoliamcnkbaaDoor.T
