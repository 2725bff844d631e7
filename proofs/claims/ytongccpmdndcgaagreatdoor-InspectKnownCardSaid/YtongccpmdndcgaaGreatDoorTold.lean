/- The table of contracts of this program that the evaluator takes: strings.Repeat, slices.Sorted over maps.Keys, maps.Clone: each out of the library's shelf. Conditions: those that the table's functions test. -/
import Derived.Test.YtongccpmdndcgaaGreatDoorEngYB
import Derived.Test.YtongccpmdndcgaaGreatDoorShelf
import Derived.Test.YtongccpmdndcgaaGreatDoorChecked
namespace Go.Proofs
open Go.RowKit Go.Maps Go.Sort Go.Shelf Go.AE
theorem Tryz.sorts154 (m : Nat) : AnyZ.SortsIn Tryz.prog Tryz.sorted154_ren Fence.wide m :=
  ⟨fun blk off cap ss W hH hblk hsz => callsIn_wide.2 (AnyM.slices_Sort_string Tryz.sort233 blk off cap ss W hH hblk hsz),
   fun p cap W => callsIn_wide.2 (AnyM.slices_Sort_string_none Tryz.sort233 p cap W)⟩
theorem Tryz.sorted_told (g : FuncId) (hg : g ∈ [234, 241]) (Bm b nn : Nat) (D0 : DataW Unit) (R : Value → Option (DataW Unit × List MemPlace)) (w : World) (hBm : Bm < w.heap.size) (hm : w.cell? ⟨Bm, 0, none⟩ = some (.map (some b))) (hown : w.ownsMap Tryz.prog 9 R b nn D0)
    (hmax : Maps.size D0 ≤ maxLen) (hbytes : Maps.size D0 * 16 ≤ 140737488355328) : Calls Tryz.prog 154 #[.func (.func g) #[] #[.pointer (some ⟨Bm, 0, none⟩)]] w fun e w' => ∃ (v : Value) (ss : List (List UInt8)), e = .returned v ∧ ss.Perm (strKeys D0) ∧
      w'.ownsRow w.heap.size 9 1 v ss.length ((ss.mergeSort leB).map encStr) ∧ (v = .slice none 0 0 ↔ ss = []) ∧ Below w.heap.size w w' := by
  simp only [List.mem_cons, List.not_mem_nil, or_false] at hg
  rcases hg with rfl | rfl
  · have hseq : SeqGives Fence.wide 2 Tryz.prog 234 #[.pointer (some ⟨Bm, 0, none⟩)] encStr (fun ss => ss.Perm (strKeys D0)) (Maps.size D0) w :=
      AnyZ.keys_gives (ρ := Tryz.keys155_ren) { Tryz.keys155 with } Fence.wide _ trivial rfl (by omega) Bm b nn D0 w hBm hm hown
    exact callsIn_wide.1 (AnyZ.sorted_in Tryz.sorted154 Fence.wide 5 trivial trivial trivial trivial rfl (by omega) (Tryz.sorts154 _) (enters_of Tryz.func233 (by kernel_rfl) rfl) 234 #[.pointer (some ⟨Bm, 0, none⟩)] trivial (enters_of Tryz.func234 (by kernel_rfl) rfl) _ _ hmax hbytes w hseq)
  · have hseq : SeqGives Fence.wide 2 Tryz.prog 241 #[.pointer (some ⟨Bm, 0, none⟩)] encStr (fun ss => ss.Perm (strKeys D0)) (Maps.size D0) w :=
      AnyZ.keys_gives (ρ := Tryz.keys162_ren) { Tryz.keys162 with } Fence.wide _ trivial rfl (by omega) Bm b nn D0 w hBm hm hown
    exact callsIn_wide.1 (AnyZ.sorted_in Tryz.sorted154 Fence.wide 5 trivial trivial trivial trivial rfl (by omega) (Tryz.sorts154 _) (enters_of Tryz.func233 (by kernel_rfl) rfl) 241 #[.pointer (some ⟨Bm, 0, none⟩)] trivial (enters_of Tryz.func241 (by kernel_rfl) rfl) _ _ hmax hbytes w hseq)
def Tryz.table : List (FuncId × (List Value → AHeap → Option (Value × AHeap))) := [(154, sortedO 9 [234, 241])]
theorem Tryz.told {gs : List Nat} : OrcS Tryz.prog gs (orcs Tryz.table) := .cons (.sorted Tryz.underlying9 (by kernel_rfl) Tryz.sorted_told) .nil
end Go.Proofs
