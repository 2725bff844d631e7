/- Closed functions over memory that holds the listed variables. -/
import Derived.Test.YtongccpmdndcgaaGreatDoorEngYB
namespace Go.AE
set_option linter.unusedVariables false
set_option linter.unusedSimpArgs false
open Go.RowKit
variable {P : Program}

/-- Rows that are only read, each at its own number. -/
def roHeap (next : Nat) : List (Nat × TypeId × List Value) → AHeap
  | [] => ⟨next, .leaf⟩
  | (g, e, vs) :: l => (roHeap next l).set g (.cells vs.length (Tr.ofList vs 0 .leaf) e false true)
def roRen (w : World) (l : List (Nat × TypeId × List Value)) : Ren := fun b => match w.heap[b]? with
  | some (.cells cs e _) => if b ∈ l.map (·.1) then some ⟨b, 0, e, cs.size, false⟩ else none
  | _ => none
theorem roHeap_next (next : Nat) : ∀ l, (roHeap next l).next = next
  | [] => rfl
  | (_, _, _) :: l => roHeap_next next l
theorem roHeap_get (next : Nat) : ∀ (l : List (Nat × TypeId × List Value)) (b : Nat) (o : AObj), (roHeap next l).get b = some o → ∃ x ∈ l, x.1 = b ∧ o = .cells x.2.2.length (Tr.ofList x.2.2 0 .leaf) x.2.1 false true
  | [], b, o, h => by simp [roHeap, AHeap.get, Tr.get] at h
  | (g, e, vs) :: l, b, o, h => by
    rw [roHeap, AHeap.get_set] at h
    split at h
    · rename_i hb; cases h; exact ⟨(g, e, vs), by simp, hb.symm, rfl⟩
    · obtain ⟨x, hx, h1, h2⟩ := roHeap_get next l b o h
      exact ⟨x, by simp [hx], h1, h2⟩
/-- What the memory holds there. -/
def RoAt (w : World) (x : Nat × TypeId × List Value) : Prop := (∃ cs fz, w.heap[x.1]? = some (.cells cs x.2.1 fz) ∧ ∀ (i : Nat) (v : Value), x.2.2[i]? = some v → cs[i]? = some v) ∧ x.2.2.all atom = true
theorem roRen_at {w : World} {l : List (Nat × TypeId × List Value)} (h : ∀ x ∈ l, RoAt w x) {x : Nat × TypeId × List Value} (hx : x ∈ l) : ∃ n, roRen w l x.1 = some ⟨x.1, 0, x.2.1, n, false⟩ := by
  obtain ⟨⟨cs, fz, hb, _⟩, _⟩ := h x hx
  refine ⟨cs.size, ?_⟩
  unfold roRen
  rw [hb]
  simp only
  rw [if_pos (List.mem_map_of_mem hx)]
theorem Rel.ro {w : World} {next : Nat} {l : List (Nat × TypeId × List Value)} (hn : ∀ x ∈ l, x.1 < next) (h : ∀ x ∈ l, RoAt w x) : Rel P (roRen w l) (roHeap next l) w := by
  refine ⟨fun b hb => ?_, fun b m hm => ?_, fun b o ho => ?_, fun b1 b2 o1 o2 m1 m2 e1 _ _ _ hr _ => ?_⟩
  · rw [roHeap_next] at hb
    unfold roRen
    split
    · rw [if_neg]
      intro hm
      obtain ⟨x, hx, he⟩ := List.mem_map.1 hm
      have := hn x hx
      omega
    · rfl
  · unfold roRen at hm
    split at hm
    · rename_i cs e fz hb
      split at hm
      · cases hm; exact (Array.getElem?_eq_some_iff.1 hb).1
      · cases hm
    · cases hm
  · obtain ⟨x, hx, hb, rfl⟩ := roHeap_get next l b o ho
    subst hb
    obtain ⟨⟨cs, fz, hb, hv⟩, hat⟩ := h x hx
    refine ⟨⟨x.1, 0, x.2.1, cs.size, false⟩, ?_, rfl, rfl, cs, fz, hb, rfl, (fun q => by cases q), fun i v hi => ?_⟩
    · unfold roRen
      rw [hb]
      simp only
      rw [if_pos (List.mem_map_of_mem hx)]
    · rw [Tr.get_of] at hi
      exact ⟨v, hv i v hi, .atom (List.all_eq_true.1 hat v (List.mem_of_getElem? hi))⟩
  · obtain ⟨x, _, _, rfl⟩ := roHeap_get next l b1 o1 e1
    cases hr
/-- A FUNCTION WITHOUT ARGUMENTS THAT THE EVALUATOR FINDS TRUE OVER THE LISTED VARIABLES IS TRUE. -/
theorem closed_true_at {orc : Orc} {l : List (Nat × TypeId × List Value)} {next : Nat} (hmix : P.follows .mixedOrders = true) (ho : OrcS P (l.map (·.1)) orc) {n : Nat} {f : FuncId} {b : Bool} (h : (acall P (l.map (·.1)) orc n f [] (roHeap next l)).map (·.1) = some (.bool b)) (w : World)
    (hn : ∀ x ∈ l, x.1 < next) (hl : ∀ x ∈ l, RoAt w x) : Calls P f #[] w fun e w' => e = .returned (.bool b) ∧ Below w.heap.size w w' := by
  cases hc : acall P (l.map (·.1)) orc n f [] (roHeap next l) with
  | none => rw [hc] at h; simp at h
  | some p =>
    obtain ⟨v, σ'⟩ := p
    rw [hc] at h
    simp only [Option.map_some, Option.some.injEq] at h
    subst h
    refine (acall_sound hmix ho n f [] _ _ σ' hc (roRen w l) w [] (fun g hg => ?_) .nil (.ro hn hl)).mono fun e w' ⟨ρ', v', he, hv, hR, hE⟩ => ?_
    · obtain ⟨x, hx, rfl⟩ := List.mem_map.1 hg
      obtain ⟨k, hk⟩ := roRen_at hl hx
      exact ⟨_, hk, rfl, rfl⟩
    · refine ⟨by rw [he, hv.bool_inv], hE.os, hE.tape, hE.output, hE.size, fun k hk => hE.frame k hk fun ⟨b, o, m, hg, hr, _⟩ => ?_⟩
      obtain ⟨x, _, _, rfl⟩ := roHeap_get next l b o hg
      cases hr
end Go.AE
