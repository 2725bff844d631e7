/- Texts of this proof, gathered. What each part says stands at its head; conditions: none but those that its theorems name. -/
import Derived.Test.YtongccpmdndcgaaE3
import Derived.Test.YtongccpmdndcgaaShelf
import Derived.Test.YtongccpmdndcgaaChecked
/- The table of contracts of this program that the evaluator takes: strings.Repeat, slices.Sorted over maps.Keys, maps.Clone: each out of the library's shelf. Conditions: those that the table's functions test. -/
section
set_option linter.all false
namespace Go.Proofs
open Go.RowKit Go.Maps Go.Sort Go.Shelf Go.AE
theorem Try.sorts116 (m : Nat) : AnyZ.SortsIn Try.prog Try.sorted116_ren Fence.wide m :=
  ⟨fun blk off cap ss W hH hblk hsz => callsIn_wide.2 (AnyM.slices_Sort_string Try.sort163 blk off cap ss W hH hblk hsz),
   fun p cap W => callsIn_wide.2 (AnyM.slices_Sort_string_none Try.sort163 p cap W)⟩
theorem Try.sorted_told (g : FuncId) (hg : g ∈ [164, 167]) (Bm b nn : Nat) (D0 : DataW Unit) (R : Value → Option (DataW Unit × List MemPlace)) (w : World) (hBm : Bm < w.heap.size) (hm : w.cell? ⟨Bm, 0, none⟩ = some (.map (some b))) (hown : w.ownsMap Try.prog 9 R b nn D0)
    (hmax : Maps.size D0 ≤ maxLen) (hbytes : Maps.size D0 * 16 ≤ 140737488355328) : Calls Try.prog 116 #[.func (.func g) #[] #[.pointer (some ⟨Bm, 0, none⟩)]] w fun e w' => ∃ (v : Value) (ss : List (List UInt8)), e = .returned v ∧ ss.Perm (strKeys D0) ∧
      w'.ownsRow w.heap.size 9 1 v ss.length ((ss.mergeSort leB).map encStr) ∧ (v = .slice none 0 0 ↔ ss = []) ∧ Below w.heap.size w w' := by
  simp only [List.mem_cons, List.not_mem_nil, or_false] at hg
  rcases hg with rfl | rfl
  · have hseq : SeqGives Fence.wide 2 Try.prog 164 #[.pointer (some ⟨Bm, 0, none⟩)] encStr (fun ss => ss.Perm (strKeys D0)) (Maps.size D0) w :=
      AnyZ.keys_gives (ρ := Try.keys117_ren) { Try.keys117 with } Fence.wide _ trivial rfl (by omega) Bm b nn D0 w hBm hm hown
    exact callsIn_wide.1 (AnyZ.sorted_in Try.sorted116 Fence.wide 5 trivial trivial trivial trivial rfl (by omega) (Try.sorts116 _) (enters_of Try.func163 (by kernel_rfl) rfl) 164 #[.pointer (some ⟨Bm, 0, none⟩)] trivial (enters_of Try.func164 (by kernel_rfl) rfl) _ _ hmax hbytes w hseq)
  · have hseq : SeqGives Fence.wide 2 Try.prog 167 #[.pointer (some ⟨Bm, 0, none⟩)] encStr (fun ss => ss.Perm (strKeys D0)) (Maps.size D0) w :=
      AnyZ.keys_gives (ρ := Try.keys135_ren) { Try.keys135 with } Fence.wide _ trivial rfl (by omega) Bm b nn D0 w hBm hm hown
    exact callsIn_wide.1 (AnyZ.sorted_in Try.sorted116 Fence.wide 5 trivial trivial trivial trivial rfl (by omega) (Try.sorts116 _) (enters_of Try.func163 (by kernel_rfl) rfl) 167 #[.pointer (some ⟨Bm, 0, none⟩)] trivial (enters_of Try.func167 (by kernel_rfl) rfl) _ _ hmax hbytes w hseq)
def Try.table : List (FuncId × (List Value → AHeap → Option (Value × AHeap))) := [(35, still repO), (116, sortedO 9 [164, 167]), (104, cloneO), (122, cloneO)]
theorem Try.told {gs : List Nat} : OrcS False Try.prog gs (orcs Try.table) := .cons (.repeat fun s c w h1 h2 => Try.strings_Repeat s c w h1 h2) (.cons (.sorted Try.underlying9 (by kernel_rfl) Try.sorted_told) (.cons (.clone (fun b es clock w hb => AnyW.maps_Clone Try.clone104 b es clock w hb) (fun w => AnyW.maps_Clone_nil Try.clone104 w)) (.cons (.clone (fun b es clock w hb => AnyW.maps_Clone Try.clone122 b es clock w hb) (fun w => AnyW.maps_Clone_nil Try.clone122 w)) .nil)))
end Go.Proofs
end
