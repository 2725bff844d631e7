/- What is told beside the text: slices.Sorted(maps.Keys(m)) at keys that are strings. -/
import Derived.Test.YtongccpmdndcgaaGreatDoorEngY
import Derived.Sort.KeysCollected
import Derived.Sort.EncStr
namespace Go.AE
set_option linter.unusedVariables false
set_option linter.unusedSimpArgs false
open Go.RowKit Go.Maps Go.Sort
open Go.Proofs (encStr)
variable {P : Program} {ρ : Ren} {σ : AHeap} {w : World}

/-! A block that a call has made. -/
theorem Rel.newAt (h : Rel P ρ σ w) {w' : World} (hb : Below w.heap.size w w') {o : AObj} {m : Img} (h1 : w.heap.size ≤ m.blk) (h2 : m.blk < w'.heap.size) (ho : ObjR P (ρ.add σ.next m) w' m o) : Rel P (ρ.add σ.next m) (σ.new o).2 w' := by
  have hfree : ρ σ.next = none := h.dom _ (Nat.le_refl _)
  have hle := Ren.le_add (m := m) hfree
  refine ⟨fun b hb => ?_, fun b m' hm => ?_, fun b o' e => ?_, fun b1 b2 o1 o2 m1 m2 e1 e2 k1 k2 hr he => ?_⟩
  · simp only [AHeap.next_new] at hb
    unfold Ren.add
    rw [if_neg (by omega)]
    exact h.dom b (by omega)
  · unfold Ren.add at hm
    split at hm
    · cases hm; exact h2
    · exact Nat.lt_of_lt_of_le (h.lt b m' hm) hb.size
  · rw [AHeap.get_new] at e
    split at e
    · rename_i hq; subst hq; cases e; exact ⟨m, Ren.add_same, ho⟩
    · obtain ⟨m2, hm2, ho2⟩ := h.obj b o' e
      exact ⟨m2, hle _ _ hm2, (ho2.of_heap (hb.block _ (h.lt b m2 hm2))).mono hle⟩
  · rw [AHeap.get_new] at e1 e2
    unfold Ren.add at k1 k2
    split at e1 <;> split at e2
    · rename_i a b; rw [a, b]
    · rename_i a b; rw [if_pos a] at k1; rw [if_neg b] at k2; cases k1; have := h.lt b2 m2 k2; omega
    · rename_i a b; rw [if_neg a] at k1; rw [if_pos b] at k2; cases k2; have := h.lt b1 m1 k1; omega
    · rename_i a b; rw [if_neg a] at k1; rw [if_neg b] at k2; exact h.inj b1 b2 o1 o2 m1 m2 e1 e2 k1 k2 hr he
theorem Ext.newAt (h : Rel P ρ σ w) {w' : World} (hb : Below w.heap.size w w') {o : AObj} {m : Img} (hro : o.ro = false) (h1 : w.heap.size ≤ m.blk) : Ext ρ σ w (ρ.add σ.next m) (σ.new o).2 w' := by
  refine ⟨Ren.le_add (h.dom _ (Nat.le_refl _)), by simp, hb.size, hb.os, hb.tape, hb.output, fun k hk _ => hb.block k hk, fun k hk ⟨b, o', m', e, hr, hm, hbl⟩ => ?_, fun b hb => by unfold Ren.add; rw [if_neg (by omega)], fun b o' e hr => by
    rw [AHeap.get_new] at e
    split at e
    · cases e; rw [hro] at hr; cases hr
    · exact e⟩
  rw [AHeap.get_new] at e
  unfold Ren.add at hm
  split at e
  · rename_i a; rw [if_pos a] at hm; cases hm; omega
  · rename_i a; rw [if_neg a] at hm; exact ⟨b, o', m', e, hr, hm, hbl⟩

/-! Words in order. -/
def leU : List UInt8 → List UInt8 → Bool
  | [], _ => true
  | _ :: _, [] => false
  | a :: x, b :: y => match a.toNat.blt b.toNat with
    | true => true
    | false => match a.toNat.beq b.toNat with
      | true => leU x y
      | false => false
theorem leU_eq : ∀ x y : List UInt8, leU x y = decide (x ≤ y)
  | [], y => by simp [leU]
  | a :: x, [] => by simp [leU]
  | a :: x, b :: y => by
    rw [leU, leU_eq x y]
    have hc : (a :: x ≤ b :: y) ↔ (a < b ∨ a = b ∧ x ≤ y) := List.cons_le_cons_iff
    split
    · rename_i h
      have : a < b := UInt8.lt_iff_toNat_lt.2 (Nat.le_of_ble_eq_true h)
      rw [decide_eq_true (hc.2 (.inl this))]
    · rename_i h
      have hn : ¬ a < b := fun q => by
        rw [show a.toNat.blt b.toNat = true from Nat.ble_eq_true_of_le (UInt8.lt_iff_toNat_lt.1 q)] at h; cases h
      split
      · rename_i he
        have he : a = b := UInt8.toNat_inj.1 (Nat.eq_of_beq_eq_true he)
        congr 1
        apply propext
        rw [hc]
        simp [he]
      · rename_i he
        have hne : ¬ a = b := fun q => by rw [q, Nat.beq_refl] at he; cases he
        symm
        rw [decide_eq_false_iff_not, hc]
        simp [hn, hne]
def insU (x : List UInt8) : List (List UInt8) → List (List UInt8)
  | [] => [x]
  | y :: l => match leU x y with
    | true => x :: y :: l
    | false => y :: insU x l
def sortU : List (List UInt8) → List (List UInt8)
  | [] => []
  | x :: l => insU x (sortU l)
theorem insU_perm (x : List UInt8) : ∀ l, (insU x l).Perm (x :: l)
  | [] => .refl _
  | y :: l => by
    rw [insU]
    split
    · exact .refl _
    · exact (List.Perm.cons y (insU_perm x l)).trans (List.Perm.swap x y l)
theorem sortU_perm : ∀ l, (sortU l).Perm l
  | [] => .refl _
  | x :: l => (insU_perm x _).trans ((sortU_perm l).cons x)
theorem insU_pair (x : List UInt8) : ∀ l, l.Pairwise (fun a b => leB a b = true) → (insU x l).Pairwise (fun a b => leB a b = true)
  | [], _ => by simp [insU]
  | y :: l, h => by
    have tr : ∀ a b c : List UInt8, leB a b = true → leB b c = true → leB a c = true := fun a b c h1 h2 => by simp only [leB, decide_eq_true_eq] at *; exact List.le_trans h1 h2
    have hy := List.pairwise_cons.1 h
    rw [insU]
    split
    · rename_i hl
      rw [leU_eq] at hl
      refine List.pairwise_cons.2 ⟨fun z hz => ?_, h⟩
      rcases List.mem_cons.1 hz with rfl | hz
      · exact hl
      · exact tr _ _ _ hl (hy.1 z hz)
    · rename_i hl
      rw [leU_eq] at hl
      refine List.pairwise_cons.2 ⟨fun z hz => ?_, insU_pair x l hy.2⟩
      rcases List.mem_cons.1 ((insU_perm x l).mem_iff.1 hz) with rfl | hz
      · simp only [leB, decide_eq_true_eq, decide_eq_false_iff_not] at hl ⊢
        exact (List.le_total z y).resolve_left hl
      · exact hy.1 z hz
theorem sortU_pair : ∀ l, (sortU l).Pairwise (fun a b => leB a b = true)
  | [] => .nil
  | x :: l => insU_pair x _ (sortU_pair l)
theorem sortU_eq {ss l : List (List UInt8)} (h : ss.Perm l) : ss.mergeSort leB = sortU l := by
  have tr : ∀ a b c : List UInt8, leB a b = true → leB b c = true → leB a c = true := fun a b c h1 h2 => by simp only [leB, decide_eq_true_eq] at *; exact List.le_trans h1 h2
  have to : ∀ a b : List UInt8, (leB a b || leB b a) = true := fun a b => by simp only [leB, Bool.or_eq_true, decide_eq_true_eq]; exact List.le_total a b
  refine List.Perm.eq_of_pairwise (le := fun a b => leB a b = true) (fun a b _ _ h1 h2 => ?_) (List.pairwise_mergeSort tr to ss) (sortU_pair l) (((List.mergeSort_perm ss leB).trans h).trans (sortU_perm l).symm)
  simp only [leB, decide_eq_true_eq] at h1 h2
  exact List.le_antisymm h1 h2
def risesB : List (List UInt8) → Bool
  | x :: y :: l => !leU y x && risesB (y :: l)
  | _ => true
theorem risesB_nodup : ∀ l, l.Pairwise (fun a b => leB a b = true) → risesB l = true → l.Nodup
  | [], _, _ => .nil
  | [x], _, _ => by simp
  | x :: y :: l, h, hr => by
    rw [risesB, Bool.and_eq_true, Bool.not_eq_true', leU_eq, decide_eq_false_iff_not] at hr
    have h1 := List.pairwise_cons.1 h
    have h2 := List.pairwise_cons.1 h1.2
    refine List.nodup_cons.2 ⟨fun hm => ?_, risesB_nodup (y :: l) h1.2 hr.2⟩
    rcases List.mem_cons.1 hm with rfl | hm
    · exact hr.1 (List.le_refl _)
    · have := h2.1 x hm
      simp only [leB, decide_eq_true_eq] at this
      exact hr.1 this

/-! The keys of an abstract map. -/
def keysU : List MapEntry → Option (List (List UInt8))
  | [] => some []
  | e :: r => match e.key, keysU r with
    | .string s, some l => match s.size.ble 9223372036854775807 with
      | true => some (s.data.toList :: l)
      | false => none
    | _, _ => none
/-- Rising stamps below the clock. -/
def bornB (clock : Nat) : List MapEntry → Nat → Bool
  | [], _ => true
  | e :: r, n => n.ble e.born && e.born.blt clock && bornB clock r (e.born + 1)
theorem bornB_spec {clock : Nat} : ∀ (es : List MapEntry) (n : Nat), bornB clock es n = true → (∀ e ∈ es, n ≤ e.born ∧ e.born < clock) ∧ (es.map (·.born)).Nodup
  | [], _, _ => by simp
  | e :: r, n, h => by
    rw [bornB, Bool.and_eq_true, Bool.and_eq_true] at h
    have h1 := Nat.le_of_ble_eq_true h.1.1
    have h2 : e.born < clock := Nat.le_of_ble_eq_true h.1.2
    obtain ⟨i1, i2⟩ := bornB_spec r _ h.2
    refine ⟨fun x hx => ?_, List.nodup_cons.2 ⟨fun hm => ?_, i2⟩⟩
    · rcases List.mem_cons.1 hx with rfl | hx
      · exact ⟨h1, h2⟩
      · have := i1 x hx; omega
    · obtain ⟨x, hx, he⟩ := List.mem_map.1 hm
      have := i1 x hx
      simp only at he
      omega
theorem keysU_spec : ∀ (es : List MapEntry) (ks : List (List UInt8)), keysU es = some ks → ∀ (es' : List MapEntry), ELR P ρ es es' → es'.map (·.key) = ks.map encStr ∧ es'.map (·.born) = es.map (·.born) ∧ ∀ x ∈ ks, x.length ≤ maxLen
  | [], ks, h, es', hE => by
    simp only [keysU, Option.some.injEq] at h
    subst h
    have : es' = [] := List.eq_nil_of_length_eq_zero hE.len.symm
    subst this
    simp
  | e :: r, ks, h, es', hE => by
    obtain ⟨e', r', rfl, he, hr⟩ := hE.cons_inv
    rw [keysU] at h
    split at h
    · rename_i s l hk hl
      split at h
      · rename_i hs
        cases h
        obtain ⟨i1, i2, i3⟩ := keysU_spec r l hl r' hr
        have hkey := he.key
        rw [hk] at hkey
        refine ⟨?_, by simp [he.born, i2], fun x hx => ?_⟩
        · rw [List.map_cons, List.map_cons, i1, hkey.string_inv]
        · rcases List.mem_cons.1 hx with rfl | hx
          · have := Nat.le_of_ble_eq_true hs
            rw [Array.length_toList]
            exact this
          · exact i3 x hx
      · cases h
    · cases h

def sortedO (kt : TypeId) (its : List FuncId) (args : List Value) (σ : AHeap) : Option (Value × AHeap) := match args with
  | [.func (.func g) ⟨[]⟩ ⟨[.pointer (some ⟨c, 0, none⟩)]⟩] => match its.contains g with
    | false => none
    | true => match σ.get c with
      | some (.cells _ cs _ false false) => match cs.get 0 with
        | some (.map (some r)) => match σ.get r with
          | some (.map es clock _) => match keysU es with
            | some ks => match risesB (sortU ks) && bornB clock es 0 && es.length.ble 1048576 with
              | true => match sortU ks with
                | [] => some (.slice none 0 0, σ)
                | x :: l => some (.slice (some ⟨σ.next, 0, none⟩) (l.length + 1) (l.length + 1), (newCells σ kt ((x :: l).map encStr) true).2)
              | false => none
            | none => none
          | _ => none
        | _ => none
      | _ => none
  | _ => none
theorem Told.sorted {gs : List Nat} {f : FuncId} {kt : TypeId} {its : List FuncId} (hk : P.underlying kt = some .string) (hsz : sizeOf' P kt = some 1)
    (h : ∀ g, g ∈ its → ∀ (Bm b nn : Nat) (D0 : DataW Unit) (R : Value → Option (DataW Unit × List MemPlace)) (w : World), Bm < w.heap.size → w.cell? ⟨Bm, 0, none⟩ = some (.map (some b)) → w.ownsMap P kt R b nn D0 → Maps.size D0 ≤ maxLen → Maps.size D0 * 16 ≤ 140737488355328 →
      Calls P f #[.func (.func g) #[] #[.pointer (some ⟨Bm, 0, none⟩)]] w fun e w' => ∃ (v : Value) (ss : List (List UInt8)), e = .returned v ∧ ss.Perm (strKeys D0) ∧ w'.ownsRow w.heap.size kt 1 v ss.length ((ss.mergeSort leB).map encStr) ∧ (v = .slice none 0 0 ↔ ss = []) ∧ Below w.heap.size w w') :
    Told P gs f (sortedO kt its) := by
  intro args σ v σ' hs ρ w args' hG hl hR
  unfold sortedO at hs
  split at hs
  · rename_i g c
    split at hs
    · cases hs
    · rename_i hg
      split at hs
      · rename_i n cs e0 hc
        split at hs
        · rename_i r hr
          split at hs
          · rename_i es clock ro hm
            split at hs
            · rename_i ks hks
              split at hs
              · rename_i hchk
                simp only [Bool.and_eq_true] at hchk
                obtain ⟨⟨hri, hbo⟩, hle⟩ := hchk
                have hle := Nat.le_of_ble_eq_true hle
                obtain ⟨a', r', rfl, ha, hr0⟩ := hl.cons_inv
                have := hr0.nil_inv
                subst this
                obtain ⟨x', y', rfl, hx, hy⟩ := ha.func_inv
                obtain rfl : x' = #[] := by have := hx.nil_inv; apply Array.ext'; simpa using this
                obtain ⟨p', q', hy2, hp, hq⟩ := hy.cons_inv
                have := hq.nil_inv
                subst this
                obtain rfl : y' = #[p'] := by apply Array.ext'; simpa using hy2
                obtain ⟨mc, hmc, _, rfl⟩ := hp.ptr_inv
                obtain ⟨mc2, hmc2, hoc⟩ := hR.obj c _ hc
                simp only at hmc
                rw [hmc] at hmc2; cases hmc2
                obtain ⟨_, _, c2, fz, hb, hcsz, hfz, hcell⟩ := hoc
                have hshift := (hfz rfl).2 rfl
                obtain ⟨v0, hv0, hvr⟩ := hcell 0 _ hr
                obtain ⟨mm, hmm, rfl⟩ := hvr.map_inv
                obtain ⟨mm2, hmm2, hom⟩ := hR.obj r _ hm
                rw [hmm] at hmm2; cases hmm2
                obtain ⟨_, es', hes, hE⟩ := hom
                obtain ⟨k1, k2, k3⟩ := keysU_spec es ks hks _ hE
                obtain ⟨b1, b2⟩ := bornB_spec es 0 hbo
                have hlen : es'.size = es.length := by have := hE.len; simpa using this.symm
                have hksl : ks.length = es.length := by have := congrArg List.length k1; simp at this; omega
                let R0 : Value → Option (DataW Unit × List MemPlace) := fun _ => some (.nil, [])
                have hrd : ∀ x ∈ es'.toList, ∃ s : List UInt8, x.key = encStr s ∧ s.length ≤ maxLen ∧ WideElems.rd P kt R0 x = some (.string s, .nil) := fun x hx => by
                  have : x.key ∈ es'.toList.map (·.key) := List.mem_map_of_mem hx
                  rw [k1] at this
                  obtain ⟨s, hs1, hs2⟩ := List.mem_map.1 this
                  refine ⟨s, hs2.symm, k3 s hs1, ?_⟩
                  have hl := k3 s hs1
                  have hkey : keyOf P kt (encStr s) = some (.string s) := by
                    simp only [keyOf, hk, encStr, mapKey]
                    rw [if_pos (show (ByteArray.mk s.toArray).size ≤ maxLen by simpa [ByteArray.size] using hl)]
                  simp only [WideElems.rd, R0, ← hs2, hkey, Option.bind_some, Option.map_some]
                have hfit : WideElems.Fit P kt R0 es' clock := by
                  refine ⟨by rw [hlen]; exact Nat.le_trans hle (by decide), ⟨fun x hx => ?_, by rw [k2]; exact b2, ?_⟩, fun x hx => by obtain ⟨s, _, _, hq⟩ := hrd x hx; exact ⟨_, hq⟩⟩
                  · have : x.born ∈ es'.toList.map (·.born) := List.mem_map_of_mem hx
                    rw [k2] at this
                    obtain ⟨y, hy1, hy2⟩ := List.mem_map.1 this
                    have := (b1 y hy1).2
                    omega
                  · rw [k1]
                    have hnd : ks.Nodup := (sortU_perm ks).nodup_iff.1 (risesB_nodup _ (sortU_pair ks) hri)
                    exact List.pairwise_map.2 (hnd.imp fun hne q => hne (encStr_inj q))
                have hD : ((es'.toList.map (WideElems.rg P kt R0)).map fun p => strOf p.1) = ks := by
                  refine (List.map_inj_right (f := encStr) (fun a b q => encStr_inj q)).1 ?_
                  rw [← k1, List.map_map, List.map_map]
                  apply List.map_congr_left
                  intro x hx
                  obtain ⟨s, q1, _, q2⟩ := hrd x hx
                  simp [WideElems.rg, q2, q1, strOf]
                have hown : w.ownsMap P kt R0 mm.blk es'.size (.map ((es'.toList.map (WideElems.rg P kt R0)).foldr DataW.insert [])) := ⟨es', clock, hes, hfit, Nat.le_refl _, rfl⟩
                have hsize : Maps.size (.map ((es'.toList.map (WideElems.rg P kt R0)).foldr DataW.insert [])) = es.length := by
                  show (((es'.toList.map (WideElems.rg P kt R0)).foldr DataW.insert [])).length = es.length
                  rw [(WideShapes.sorted_perm _).length_eq]
                  simp [hlen]
                have hblk : mc.blk < w.heap.size := hR.lt _ _ hmc
                have hcl : w.cell? ⟨mc.blk, 0, none⟩ = some (.map (some mm.blk)) := by
                  rw [cell_of hb]
                  simpa [hshift] using hv0
                have call := h g (List.contains_iff_mem.1 hg) mc.blk mm.blk es'.size _ R0 w hblk hcl hown (by rw [hsize]; exact Nat.le_trans hle (by decide)) (by rw [hsize]; omega)
                have harg : [Value.func (.func g) #[] #[.pointer (some ⟨mc.blk, 0 + mc.shift, none⟩)]].toArray = #[Value.func (.func g) #[] #[.pointer (some ⟨mc.blk, 0, none⟩)]] := by simp [hshift]
                rw [harg]
                refine call.mono fun e w' ⟨v1, ss, he, hperm, hrow, hnil, hbel⟩ => ?_
                have hss : ss.Perm ks := by
                  refine hperm.trans ?_
                  rw [← hD]
                  exact (WideShapes.sorted_perm _).map _
                have hsort := sortU_eq hss
                rw [hsort] at hrow
                have hsl : ss.length = (sortU ks).length := hss.length_eq.trans (sortU_perm ks).length_eq.symm
                split at hs
                · rename_i hz
                  cases hs
                  have : ss = [] := List.eq_nil_of_length_eq_zero (by rw [hsl, hz]; rfl)
                  rw [hnil.2 this] at he
                  exact ⟨ρ, _, he, .atom rfl, hR.below hbel, .below hbel⟩
                · rename_i x l hz
                  cases hs
                  rw [hz] at hrow hsl
                  obtain ⟨_, hrow⟩ := hrow
                  rcases hrow with ⟨rfl, h0⟩ | ⟨gb, cap, cur, rfl, hgb, hheap, hncap, hcapm, hcur, htake⟩
                  · rw [h0] at hsl; simp at hsl
                  · have hgl : gb < w'.heap.size := (Array.getElem?_eq_some_iff.1 hheap).1
                    have hcs : cur.size = cap := by simpa using hcur
                    have hO : ObjR P (ρ.add σ.next ⟨gb, 0, kt, cap, true⟩) w' ⟨gb, 0, kt, cap, true⟩ (.cells ((x :: l).map encStr).length (Tr.ofList ((x :: l).map encStr) 0 .leaf) kt true false) := by
                      refine ⟨rfl, rfl, cur, (0, 0), hheap, hcs, fun _ => ⟨thaw_zero _, fun q => by cases q⟩, fun i u hu => ?_⟩
                      rw [Tr.get_of] at hu
                      have hi : i < ((x :: l).map encStr).length := (List.getElem?_eq_some_iff.1 hu).1
                      rw [← htake, List.getElem?_take] at hu
                      refine ⟨u, ?_, ?_⟩
                      · rw [if_pos (by rw [hsl]; simpa using hi)] at hu
                        simpa using hu
                      · rw [if_pos (by rw [hsl]; simpa using hi)] at hu
                        have hu2 : (List.take (ss.length * 1) cur.toList)[i]? = some u := by rw [List.getElem?_take, if_pos (by rw [hsl]; simpa using hi)]; exact hu
                        rw [htake] at hu2
                        obtain ⟨z, _, rfl⟩ := List.mem_map.1 (List.mem_of_getElem? hu2)
                        exact .atom rfl
                    refine ⟨_, _, he, ?_, hR.newAt hbel hgb hgl hO, .newAt hR hbel rfl hgb⟩
                    have := VR.slice (P := P) (s := 1) (o := 0) (n := l.length + 1) (c := l.length + 1) (c' := cap) (Ren.add_same (ρ := ρ) (b := σ.next) (m := ⟨gb, 0, kt, cap, true⟩)) (Nat.le_refl _) (by rw [hsl] at hncap; simpa using hncap) (.inr ⟨rfl, hsz, by simp⟩)
                    rw [hsl]
                    exact this
              · cases hs
            · cases hs
          · cases hs
        · cases hs
      · cases hs
  · cases hs

/-- maps.Clone. -/
def cloneO (args : List Value) (σ : AHeap) : Option (Value × AHeap) := match args with
  | [.map none] => some (.map none, σ)
  | [.map (some r)] => match σ.get r with
    | some (.map es clock _) => some (.map (some σ.next), (σ.new (.map es clock false)).2)
    | _ => none
  | _ => none
theorem Told.clone {gs : List Nat} {f : FuncId} (h : ∀ (b : Nat) (es : Array MapEntry) (clock : Nat) (w : World), w.heap[b]? = some (.map es clock) → Calls P f #[.map (some b)] w fun e w' => e = .returned (.map (some w.heap.size)) ∧ w' = w.alloc (.map es clock))
    (h0 : ∀ w : World, Calls P f #[.map none] w fun e w' => e = .returned (.map none) ∧ w' = w) : Told P gs f cloneO := by
  intro args σ v σ' hs ρ w args' hG hl hR
  unfold cloneO at hs
  split at hs
  · cases hs
    obtain ⟨v', r', rfl, hv, hr⟩ := hl.cons_inv
    have := hr.nil_inv
    subst this
    rw [hv.atom_inv rfl]
    refine (h0 w).mono fun e w' ⟨he, hw⟩ => ?_
    subst hw
    exact ⟨ρ, _, he, .atom rfl, hR, .refl _ _ _⟩
  · rename_i r
    split at hs
    · rename_i es clock ro hg
      cases hs
      obtain ⟨v', r', rfl, hv, hr⟩ := hl.cons_inv
      have := hr.nil_inv
      subst this
      obtain ⟨m, hm, rfl⟩ := hv.map_inv
      obtain ⟨m2, hm2, ho⟩ := hR.obj r _ hg
      rw [hm] at hm2; cases hm2
      obtain ⟨_, es', hes, hE⟩ := ho
      refine (h m.blk es' clock w hes).mono fun e w' ⟨he, hw⟩ => ?_
      subst hw
      have hfree : ρ σ.next = none := hR.dom _ (Nat.le_refl _)
      have hO : ObjR P (ρ.add σ.next ⟨w.heap.size, 0, 0, 0, false⟩) (w.alloc (.map es' clock)) ⟨w.heap.size, 0, 0, 0, false⟩ (.map es clock false) := ⟨rfl, es', heap_new _ _, hE.mono (Ren.le_add hfree)⟩
      exact ⟨_, _, he, .map (m := ⟨w.heap.size, 0, 0, 0, false⟩) Ren.add_same, hR.new rfl hO, .new hR rfl rfl⟩
    · cases hs
  · cases hs
end Go.AE
