/- Texts of this proof, gathered. What each part says stands at its head; conditions: none but those that its theorems name. -/
import Derived.Test.YtongccpmdndcgaaDoorIcb
import Derived.Test.YtongccpmdndcgaaDoorE4
import Derived.Maps.Keyed
import Derived.Maps.Own
import Derived.Maps.OwnSet
import Derived.LaidMore
import Derived.LaidSub
import Derived.MakeChecks
import Derived.Test.YtongccpmdndcgaaDoorRows
import Derived.OpenShut
/- The law's own run. -/
section
set_option linter.all false
namespace Go.Proofs.YtongccpmdndcgaaDoor.Icm
open Go Go.AE Go.Proofs
set_option maxRecDepth 100000
set_option maxHeartbeats 4000000
attribute [local irreducible] Go.AE.Tr.put Go.AE.Tr.get
variable {gs : List Nat} {orc : Orc} {n : Nat} {σ : AHeap} {Q : Value × AHeap → Prop}

theorem ld1 {b o : Nat} {v : Value} (h : ldCells σ b o 1 = some [v]) : ld σ b o = some v := by
  change (match σ.get b with | some (.cells _ c _ _ _) => ldN c o 1 | _ => none) = some [v] at h
  unfold AE.ld
  split at h
  · rename_i n c e g r hg
    rw [hg]
    simp only [ldN] at h
    cases hc : c.get o with
    | none => simp [hc] at h
    | some w => simp [hc] at h; simp only [hc, h]
  · cases h
theorem slr_first {v : Value} {A : List Nat} (h : SlR σ 1 encB v A) : firstCells' 1 A.length σ v = some (A.flatMap encB) := by
  rcases h with ⟨a, c, rfl, rfl⟩ | ⟨b, o, cap, rfl, h2, h3⟩
  · cases a <;> simp [firstCells', AE.ldCells]
  · simp only [firstCells']
    by_cases hA : A = []
    · subst hA; rfl
    have hpos : 0 < A.length := List.length_pos_iff.2 hA
    unfold AE.ldCells
    split
    · rename_i h0
      omega
    · 
      have hl : ∀ (i x : Nat), A[i]? = some x → ld σ b (o + i) = some (.int .u8 (x : Int)) := fun i x hi => by have := ld1 (h3 i x hi); rwa [Nat.mul_one] at this
      have h1 := hl 0 _ (gd_some (A := A) (i := 0) hpos)
      unfold AE.ld at hl h1
      split at h1
      · rename_i n c e g r hg
        simp only [hg] at hl ⊢
        have hfl : (A.flatMap encB).length = A.length * 1 := by rw [flat_encB, List.length_map, Nat.mul_one]
        rw [← hfl]
        refine ldN_of _ _ fun j w hj => ?_
        rw [flat_encB, List.getElem?_map] at hj
        cases hx : A[j]? with
        | none => rw [hx] at hj; cases hj
        | some x => rw [hx] at hj; cases hj; exact hl j x hx
      · cases h1
end Go.Proofs.YtongccpmdndcgaaDoor.Icm
end
/- What came in beside listed variables: generic laws. -/
section
set_option linter.all false
namespace Go.AE
open Go.RowKit Go.ChangeShapes Go.WideShapes
variable {D : Prop} {P : Program}
/-- A run that answers true, over memory that is only read; some variables are listed. -/
theorem open_true_g {gs : List Nat} {orc : Orc} (hmix : P.follows .mixedOrders = true) (ho : OrcS D P gs orc) {n : Nat} {f : FuncId} {σ : AHeap} {ρ : Ren} {w : World} {args args' : List Value} (hG : Gl gs ρ) (hR : Rel P ρ σ w) (hro : ∀ b o, σ.get b = some o → o.ro = true) (hl : LR P ρ args args')
    (h : W (acall P gs orc n f args σ) fun r => r.1 = .bool true) : Calls P f args'.toArray w fun e w' => e = .returned (.bool true) ∧ Below w.heap.size w w' := by
  obtain ⟨⟨v, σ'⟩, hc, hv0⟩ := h
  simp only at hv0
  subst hv0
  refine (acall_sound hmix ho n f args σ _ σ' hc ρ w args' hG hl hR).mono fun e w' ⟨ρ', v', he, hv, hR', hE⟩ => ?_
  refine ⟨by rw [he, hv.bool_inv], hE.os, hE.tape, hE.output, hE.size, fun k hk => hE.frame k hk fun ⟨b, o, m, hg, hr, _⟩ => ?_⟩
  rw [hro b o hg] at hr
  cases hr
/-- One more row that is only read. -/
theorem row_on_rel {w : World} {ρ0 : Ren} {σ0 : AHeap} (hR : Rel P ρ0 σ0 w) (hro : ∀ b o, σ0.get b = some o → o.ro = true) {blk off : Nat} {e : TypeId} {cs : Array Value} {fz : Nat × Nat} {vs : List Value} (hb : w.heap[blk]? = some (.cells cs e fz)) (hv : ∀ (i : Nat) v, vs[i]? = some v → cs[i + off]? = some v) (hat : ∀ v ∈ vs, atom v = true) :
    Rel P (fun b => if b = σ0.next then some ⟨blk, off, e, cs.size, false⟩ else ρ0 b) (σ0.new (.cells vs.length (Tr.ofList vs 0 .leaf) e false true)).2 w ∧ ρ0.le (fun b => if b = σ0.next then some ⟨blk, off, e, cs.size, false⟩ else ρ0 b) ∧
    (∀ b o, (σ0.new (.cells vs.length (Tr.ofList vs 0 .leaf) e false true)).2.get b = some o → o.ro = true) := by
  have hle : ρ0.le (fun b => if b = σ0.next then some ⟨blk, off, e, cs.size, false⟩ else ρ0 b) := fun b m hm => by
    have : b ≠ σ0.next := fun q => by rw [q, hR.dom _ (Nat.le_refl _)] at hm; cases hm
    show (if b = σ0.next then _ else ρ0 b) = some m
    rw [if_neg this]; exact hm
  have hall : ∀ b o, (σ0.new (.cells vs.length (Tr.ofList vs 0 .leaf) e false true)).2.get b = some o → o.ro = true := fun b o h => by
    rw [AHeap.get_new] at h
    split at h
    · cases h; rfl
    · exact hro b o h
  refine ⟨⟨fun b hb' => ?_, fun b m hm => ?_, fun b o ho => ?_, fun b1 b2 o1 o2 m1 m2 e1 _ _ _ hr _ => ?_⟩, hle, hall⟩
  · have h1 : σ0.next + 1 ≤ b := hb'
    show (if b = σ0.next then _ else ρ0 b) = none
    rw [if_neg (by omega)]
    exact hR.dom b (by omega)
  · have hm : (if b = σ0.next then some _ else ρ0 b) = some m := hm
    split at hm
    · cases hm; exact (Array.getElem?_eq_some_iff.1 hb).1
    · exact hR.lt b m hm
  · rw [AHeap.get_new] at ho
    split at ho
    · rename_i h0
      cases ho
      refine ⟨_, if_pos h0, rfl, rfl, cs, fz, hb, rfl, (fun q => by cases q), fun i v hi => ?_⟩
      rw [Tr.get_of] at hi
      exact ⟨v, hv i v hi, .atom (hat v (List.mem_of_getElem? hi))⟩
    · rename_i h0
      obtain ⟨m, hm, ho⟩ := hR.obj b o ho
      exact ⟨m, hle b m hm, ho.mono hle⟩
  · have := hall b1 o1 e1; rw [hr] at this; cases this
section
variable {α : Type} {k : Nat} {enc' : α → List Value}
theorem slice_arg_on [Inhabited α] (hE : Enc k enc') (hat : ∀ x, ∀ v ∈ enc' x, atom v = true) {H : Type} {enc : TypeId × Value → H} {w : World} {held : Bool} {t e : TypeId} {a : Option Addr} {len cap : Nat} {d : DataW H} {ps : List MemPlace}
    {ρ0 : Ren} {σ0 : AHeap} (hR0 : Rel P ρ0 σ0 w) (hro0 : ∀ b o, σ0.get b = some o → o.ro = true)
    (ht : P.underlying t = some (.slice e)) (hc : P.cellsOf e = k) (dec : ∀ m cs y, DataW.trod enc P w 0 (fun _ => true) held m e cs = some y → ∃ z : α, cs = enc' z)
    (h : DataW.Trod enc P w 0 (fun _ => true) held t (.slice a len cap) d ps) :
    ∃ σ ρ v A, Rel P ρ σ w ∧ VR P ρ v (.slice a len cap) ∧ SlR σ k enc' v A ∧ (∀ b o, σ.get b = some o → o.ro = true) ∧ SlCut σ v ∧ Same σ0 σ [] ∧ ρ0.le ρ := by
  obtain ⟨fuel, hf⟩ := h
  have hf' : DataW.trod enc P w 0 (fun _ => true) held fuel t [.slice a len cap] = some (d, ps) := by simpa [Value.cells] using hf
  have hk := hE.pos
  rcases Deep.open_slice ht hf' with ⟨e1, _⟩ | ⟨a', len', cap', m, n, Dd, Pl, e1, hb, hl, hm, hmm, hx, hel⟩
  · simp only [List.cons.injEq, Value.slice.injEq, and_true] at e1
    obtain ⟨rfl, rfl, rfl⟩ := e1
    exact ⟨σ0, ρ0, .slice none 0 0, [], hR0, .atom rfl, .inl ⟨_, _, rfl, rfl⟩, hro0, .inl rfl, .refl _ _, Ren.le_refl _⟩
  · simp only [List.cons.injEq, Value.slice.injEq, and_true] at e1
    obtain ⟨rfl, rfl, rfl⟩ := e1
    simp only [if_true] at hmm
    subst hmm
    by_cases h0 : m = 0
    · subst h0
      have : len = 0 := by omega
      subst this
      exact ⟨σ0, ρ0, .slice (some ⟨0, 0, some 0⟩) 0 0, [], hR0, .empty (k := 0) rfl, .inl ⟨_, _, rfl, rfl⟩, hro0, .inr (.inl ⟨⟨0, 0, none⟩, rfl⟩), .refl _ _, Ren.le_refl _⟩
    · obtain ⟨F, hF⟩ := Deep.choose_lt (α := α) (p := fun i x => w.cells? 0 (a'.add (i * k)) k = some (enc' x)) (n := m) (fun i hi => by
        obtain ⟨cs', h1, h2⟩ := hel i hi
        obtain ⟨z, rfl⟩ := dec _ _ _ h2
        rw [hc] at h1
        exact ⟨z, h1⟩)
      obtain ⟨v0, hv0⟩ : ∃ v0, (enc' (F 0))[0]? = some v0 := ⟨_, List.getElem?_eq_getElem (by rw [hE.len]; exact hk)⟩
      have c0 : w.cell? a' = some v0 := by
        obtain ⟨_, h2, h3⟩ := World.cells?_some (hF 0 (by omega))
        have h4 := h3 0 hk
        rw [hv0] at h4
        simpa [Addr.add] using h4
      have hsp : a'.spot = none := World.cell?_spot c0
      obtain ⟨blk, off, spot⟩ := a'
      simp only at hsp
      subst hsp
      have hcell : ∀ i, i < m → ∀ j v, (enc' (F i))[j]? = some v → w.cell? ⟨blk, off + (i * k + j), none⟩ = some v := fun i hi j v hj => by
        obtain ⟨_, h2, h3⟩ := World.cells?_some (hF i hi)
        have hjl : j < k := by have := (List.getElem?_eq_some_iff.1 hj).1; rwa [hE.len] at this
        have h4 := h3 j hjl
        rw [hj, Go.WideShapes.add_plain, Go.WideShapes.add_plain] at h4
        simpa [Nat.add_assoc] using h4
      obtain ⟨cs, e', fz, hblk⟩ : ∃ cs e' fz, w.heap[blk]? = some (.cells cs e' fz) := by
        unfold World.cell? at c0
        simp only at c0
        split at c0
        · rename_i c1 c2 c3 hq; exact ⟨_, _, _, hq⟩
        · cases c0
      have hget : ∀ i, i < m → ∀ j v, (enc' (F i))[j]? = some v → cs[off + (i * k + j)]? = some v := fun i hi j v hj => by
        have := hcell i hi j v hj
        unfold World.cell? at this
        simp only [hblk] at this
        simpa using this
      have hA : ∀ i x, ((List.range len).map F)[i]? = some x → i < len ∧ x = F i := fun i x hi => by
        have hlt := (List.getElem?_eq_some_iff.1 hi).1
        simp at hlt
        refine ⟨hlt, ?_⟩
        rw [List.getElem?_map, List.getElem?_range hlt] at hi
        simpa using hi.symm
      obtain ⟨hRel, hle, hall⟩ := row_on_rel (off := off) hR0 hro0 hblk (vs := ((List.range len).map F).flatMap enc') (fun q v hq => by
          obtain ⟨i, x, j, rfl, h3, h4⟩ := flat_of hE _ q v hq
          obtain ⟨h5, rfl⟩ := hA i x h3
          have := hget i (by omega) j v h4
          rwa [Nat.add_comm] at this) (fun v hv => by
          obtain ⟨x, _, hx⟩ := List.mem_flatMap.1 hv
          exact hat x v hx)
      have hgn : (σ0.new (.cells (((List.range len).map F).flatMap enc').length (Tr.ofList (((List.range len).map F).flatMap enc') 0 .leaf) e' false true)).2.get σ0.next = some (.cells (((List.range len).map F).flatMap enc').length (Tr.ofList (((List.range len).map F).flatMap enc') 0 .leaf) e' false true) := by rw [AHeap.get_new, if_pos rfl]
      refine ⟨_, _, .slice (some ⟨σ0.next, 0, none⟩) len m, (List.range len).map F, hRel, ?_, .inr ⟨σ0.next, 0, m, by simp, Nat.lt_succ_self _, fun i x hi => ?_⟩, hall, .inr (.inr ⟨σ0.next, 0, len, m, _, _, _, _, rfl, hl, by omega, Nat.lt_succ_self _, hgn⟩), .new _ _, hle⟩
      · have := VR.slice (P := P) (ρ := fun b => if b = σ0.next then some (⟨blk, off, e', cs.size, false⟩ : Img) else ρ0 b) (b := σ0.next) (o := 0) (n := len) (c := m) (c' := m) (s := 0) (m := ⟨blk, off, e', cs.size, false⟩) (by simp) hl (Nat.le_refl _) (.inl rfl)
        simpa using this
      · unfold AE.ldCells
        split
        · omega
        · rw [hgn]
          simp only
          have := ldN_of (c := Tr.ofList (((List.range len).map F).flatMap enc') 0 .leaf) (enc' x) (0 + i * k) fun j v hj => by
            rw [Tr.get_of, Nat.zero_add]
            exact flat_get hE _ i x j v hi hj
          rwa [hE.len] at this
end
/-- A listed variable that holds a map: the memory that a run may read. -/
def mapHeap (g : Nat) (e : TypeId) (es : List MapEntry) (cl : Nat) : AHeap := ⟨g + 2, ((Tr.leaf : Tr AObj).put g (some (.cells 1 (Tr.ofList [.map (some (g + 1))] 0 .leaf) e false true))).put (g + 1) (some (.map es cl true))⟩
def mapRen (g : Nat) (e : TypeId) (bm n : Nat) : Ren := fun b => if b = g then some ⟨g, 0, e, n, false⟩ else if b = g + 1 then some ⟨bm, 0, 0, 0, false⟩ else none
theorem mapHeap_get {g : Nat} {e : TypeId} {es : List MapEntry} {cl b : Nat} : (mapHeap g e es cl).get b = if b = g + 1 then some (.map es cl true) else if b = g then some (.cells 1 (Tr.ofList [.map (some (g + 1))] 0 .leaf) e false true) else none := by
  unfold mapHeap AHeap.get
  simp only [Tr.get_put]
  split
  · rfl
  · split <;> rfl
theorem mapHeap_ro {g : Nat} {e : TypeId} {es : List MapEntry} {cl : Nat} : ∀ b o, (mapHeap g e es cl).get b = some o → o.ro = true := by
  intro b o h
  rw [mapHeap_get] at h
  split at h
  · cases h; rfl
  · split at h
    · cases h; rfl
    · cases h
theorem mapHeap_rel {w : World} {g bm cl : Nat} {e : TypeId} {cs : Array Value} {fz : Nat × Nat} {es : Array MapEntry} (hg : w.heap[g]? = some (.cells cs e fz)) (h0 : cs[0]? = some (.map (some bm))) (hb : w.heap[bm]? = some (.map es cl)) (hat : ∀ x ∈ es.toList, atom x.key = true ∧ atom x.val = true) :
    Rel P (mapRen g e bm cs.size) (mapHeap g e es.toList cl) w := by
  refine ⟨fun b hb' => ?_, fun b m hm => ?_, fun b o ho => ?_, fun b1 b2 o1 o2 m1 m2 e1 _ _ _ hr _ => ?_⟩
  · have h1 : g + 2 ≤ b := hb'
    unfold mapRen
    rw [if_neg (by omega), if_neg (by omega)]
  · unfold mapRen at hm
    split at hm
    · cases hm; exact (Array.getElem?_eq_some_iff.1 hg).1
    · split at hm
      · cases hm; exact (Array.getElem?_eq_some_iff.1 hb).1
      · cases hm
  · rw [mapHeap_get] at ho
    split at ho
    · rename_i h1
      cases ho
      refine ⟨⟨bm, 0, 0, 0, false⟩, by unfold mapRen; rw [if_neg (by omega), if_pos h1], rfl, es, hb, rfl, fun i x y hx hy => ?_⟩
      rw [hx] at hy
      cases hy
      obtain ⟨a1, a2⟩ := hat x (List.mem_of_getElem? hx)
      exact ⟨.atom a1, .atom a2, rfl⟩
    · split at ho
      · rename_i h1 h2
        cases ho
        refine ⟨⟨g, 0, e, cs.size, false⟩, by unfold mapRen; rw [if_pos h2], rfl, rfl, cs, fz, hg, rfl, (fun q => by cases q), fun i v hi => ?_⟩
        rw [Tr.get_of] at hi
        cases i with
        | zero =>
          simp at hi
          subst hi
          refine ⟨.map (some bm), by simpa using h0, ?_⟩
          exact VR.map (m := ⟨bm, 0, 0, 0, false⟩) (by unfold mapRen; rw [if_neg (by omega), if_pos rfl])
        | succ i => simp at hi
      · cases ho
  · have := mapHeap_ro b1 o1 e1; rw [hr] at this; cases this
theorem mapRen_gl {g : Nat} {e : TypeId} {bm n : Nat} : Gl [g] (mapRen g e bm n) := fun x hx => by
  simp at hx
  subst hx
  exact ⟨⟨x, 0, e, n, false⟩, by unfold mapRen; rw [if_pos rfl], rfl, rfl⟩
end Go.AE
end
/- The listed table of kinds; a message that came in. -/
section
set_option linter.all false
namespace Go.Proofs.YtongccpmdndcgaaDoor.Icm
open Go Go.AE Go.Proofs Go.RowKit Go.ChangeShapes Go.WideShapes Go.Maps
set_option maxRecDepth 100000
set_option maxHeartbeats 1000000

theorem laid_at {P : Program} {w : World} {l : List (String × DataW Unit)} {n : String} {d : DataW Unit} : ∀ {ps : List MemPlace}, DataW.LaidVars P w l ps → (n, d) ∈ l →
    ∃ g t cs fuel p, P.globalNamed n = some g ∧ (P.globals[g]?).map (·.type) = some t ∧ w.var? P n = some cs ∧ DataW.trod (fun _ => ()) P w 0 (fun _ => true) false fuel t cs.toList = some (d, p) := by
  induction l with
  | nil => intro ps _ h; cases h
  | cons x r ih =>
    intro ps h hm
    obtain ⟨g, t, cs, fuel, p, q, h1, h2, h3, h4, h5, _⟩ := h
    rcases List.mem_cons.1 hm with e | hm
    · cases e
      exact ⟨g, t, cs, fuel, p, h1, h2, h3, h4⟩
    · exact ih h5 hm
theorem laid_vars {l : List (String × DataW Unit)} {W : World} (hp : (l.all fun x => x.2.handleName?.isNone) = true) (h : laidMetH Tryd.prog l W) : ∃ ps, DataW.LaidVars Tryd.prog W l ps := by
  rw [MakeChecks.laidMetH_plain _ _ _ hp] at h
  obtain ⟨ps, h, _⟩ := h
  exact ⟨ps, h⟩
def isKind (t : Nat) : Bool := match (Rows.laid_toll_icmp_kinds : DataW Unit).atKey (.int .u8 (t : Int)) (.lit (.int .i64 0)) with | .lit (.int .i64 n) => n == (kindN t : Int) | _ => false
theorem isKind_all : ∀ t : Nat, t < 256 → isKind t = true := by decide +kernel
theorem kind_at (t : Nat) (h1 : t < 256) (c : Int) (h : (Rows.laid_toll_icmp_kinds : DataW Unit).atKey (.int .u8 (t : Int)) (.lit (.int .i64 0)) = .lit (.int .i64 c)) : c = (kindN t : Int) := by
  have := isKind_all t h1
  unfold isKind at this
  rw [h] at this
  simpa using this
theorem find_some {es : List MapEntry} (h : ∀ x ∈ es, ∃ a, x.key = .int .u8 a) (t : Int) : ∀ i, ∃ r, findKey' Tryd.prog 5 false (.int .u8 t) es i = some r ∧ ∀ j e, r = some (j, e) → e ∈ es := by
  induction es with
  | nil => exact fun i => ⟨none, rfl, fun _ _ e => by cases e⟩
  | cons x es ih =>
    intro i
    obtain ⟨a, ha⟩ := h x (List.mem_cons_self ..)
    have he : keyEq Tryd.prog 5 false (.int .u8 t) x.key = some (decide (t = a)) := by
      rw [ha]
      show pureP Tryd.prog (Op.equal 5 (.int .u8 t) (.int .u8 a)) = _
      exact eq_int Tryd.underlying5
    unfold findKey'
    rw [he]
    by_cases q : t = a
    · rw [decide_eq_true q]
      exact ⟨some (i, x), rfl, fun j e w => by cases w; exact List.mem_cons_self ..⟩
    · rw [decide_eq_false q]
      obtain ⟨r, h1, h2⟩ := ih (fun y hy => h y (List.mem_cons_of_mem _ hy)) (i + 1)
      exact ⟨r, h1, fun j e w => List.mem_cons_of_mem _ (h2 j e w)⟩
theorem lookup_int {es : List MapEntry} {M cl : Nat} {σ : AHeap} (hg : σ.get M = some (.map es cl true)) (hk : ∀ x ∈ es, ∃ a, x.key = .int .u8 a) (hv : ∀ x ∈ es, ∃ a, x.val = .int .i64 a) (t : Int) : ∃ z, lookup' Tryd.prog 53 (.map (some M)) (.int .u8 t) false σ = some (.int .i64 z) := by
  obtain ⟨r, h1, h2⟩ := find_some hk t 0
  have hs : isStr Tryd.prog 5 = false := by unfold isStr; rw [Tryd.underlying5]
  have ho : keyOk Tryd.prog 5 (.int .u8 t) = true := by unfold keyOk easyKey; rw [Tryd.underlying5]; rfl
  unfold lookup'
  rw [Tryd.underlying53]
  simp only [ho, entriesOf, hg, hs, h1]
  cases r with
  | none => exact ⟨0, by rw [show zeroOf Tryd.prog 3 = some (.int .i64 0) by kernel_rfl]; rfl⟩
  | some p =>
    obtain ⟨j, e⟩ := p
    obtain ⟨a, ha⟩ := hv e (h2 j e rfl)
    exact ⟨a, by simp [ha]⟩
theorem kinds_base {l : List (String × DataW Unit)} {W : World} {ps : List MemPlace} (h : DataW.LaidVars Tryd.prog W l ps) (hm : ("toll/icmp.kinds", Rows.laid_toll_icmp_kinds) ∈ l) :
    ∃ σ ρ, Rel Tryd.prog ρ σ W ∧ Gl [0] ρ ∧ Glb σ ∧ ∀ b o, σ.get b = some o → o.ro = true := by
  obtain ⟨g, t, cs, fuel, p, hg, ht, hv, hd⟩ := laid_at h hm
  obtain rfl := Option.some.inj ((show Tryd.prog.globalNamed "toll/icmp.kinds" = some 0 by kernel_rfl).symm.trans hg)
  obtain rfl := Option.some.inj ((show (Tryd.prog.globals[0]?).map (·.type) = some 53 by kernel_rfl).symm.trans ht)
  have hd' : DataW.trod (fun _ => ()) Tryd.prog W 0 (fun _ => true) false fuel 53 cs.toList = some (Rows.laid_toll_icmp_kinds, p) := hd
  rcases WideElems.open_map Tryd.underlying53 hd' with ⟨_, hx⟩ | ⟨bm, es, clock, m, rfl, hcs, hb, _, F, hx⟩
  · simp [Rows.laid_toll_icmp_kinds] at hx
  · simp only [Prod.mk.injEq] at hx
    have hown := World.ownsMap_of_fit (R := plainElem Tryd.prog 3) hb F (fun x _ z hz => elemAt_plainElem_int Tryd.underlying3 hz)
    rw [← hx.1] at hown
    have hc := World.var?_cell hg hv 0
    rw [← Array.getElem?_toList, hcs] at hc
    have hc : W.cell? ⟨0, 0, none⟩ = some (.map (some bm)) := hc
    obtain ⟨cs0, e0, fz, h0, h00⟩ : ∃ cs0 e0 fz, W.heap[0]? = some (.cells cs0 e0 fz) ∧ cs0[0]? = some (.map (some bm)) := by
      unfold World.cell? at hc
      simp only at hc
      split at hc
      · rename_i c1 c2 c3 hq; exact ⟨_, _, _, hq, hc⟩
      · cases hc
    have hkey : ∀ x ∈ es.toList, ∃ a, x.key = .int .u8 a := fun x hx => by
      obtain ⟨y, hy⟩ := F.reads x hx
      have := WideElems.rd_key hy
      rw [keyOf_int Tryd.underlying5] at this
      unfold mapKey at this
      rw [Tryd.underlying5] at this
      cases hxk : x.key <;> rw [hxk] at this <;> simp at this
      obtain ⟨⟨rfl, _⟩, _⟩ := this
      exact ⟨_, rfl⟩
    have hval : ∀ x ∈ es.toList, ∃ a, x.val = .int .i64 a := fun x hx => by
      obtain ⟨y, hy⟩ := F.reads x hx
      obtain ⟨z, hz, _⟩ := WideElems.rd_val hy
      obtain ⟨a, ha, _⟩ := WideElems.elemAt_int Tryd.underlying3 hz
      exact ⟨a, ha⟩
    have hR : Rel Tryd.prog (mapRen 0 e0 bm cs0.size) (mapHeap 0 e0 es.toList clock) W := mapHeap_rel h0 h00 hb fun x hx => by
      obtain ⟨a, ha⟩ := hkey x hx
      obtain ⟨b, hb⟩ := hval x hx
      rw [ha, hb]
      exact ⟨rfl, rfl⟩
    have g1 : (mapHeap 0 e0 es.toList clock).get 1 = some (.map es.toList clock true) := by rw [mapHeap_get, if_pos rfl]
    refine ⟨_, _, hR, mapRen_gl, ⟨1, es.toList, clock, 1, _, e0, false, true, (show 0 < 0 + 2 by omega), (show 1 < 0 + 2 by omega), by rw [mapHeap_get, if_neg (by omega), if_pos rfl], rfl, g1, fun t σ' ht hg' => ?_⟩, mapHeap_ro⟩
    obtain ⟨z, hz⟩ := lookup_int g1 hkey hval (t : Int)
    have hsame : lookup' Tryd.prog 53 (.map (some 1)) (.int .u8 (t : Int)) false σ' = lookup' Tryd.prog 53 (.map (some 1)) (.int .u8 (t : Int)) false (mapHeap 0 e0 es.toList clock) := by
      simp only [lookup', entriesOf, hg', g1]
    rw [hsame, hz]
    have wf : (Lit.int .u8 (t : Int)).wf = true := by simp [Lit.wf, IntKind.min, IntKind.max, IntKind.signed, IntKind.bits]; omega
    obtain ⟨c, hr, ha, _⟩ := hown.lookup_int (int_keyed Tryd.underlying5) Tryd.underlying53 Tryd.underlying3 (by kernel_rfl) (keyOf_int_mk Tryd.underlying5 wf)
    obtain rfl := kind_at t ht c ha
    obtain ⟨ρ', v', w', e1, e2, _⟩ := lookup_out (D := True) hz hR (VR.map (m := ⟨bm, 0, 0, 0, false⟩) (by unfold mapRen; rw [if_neg (by omega), if_pos rfl])) (.atom rfl)
    have e1 : (Instr.lookup 53 (.map (some bm)) (.int .u8 (t : Int)) false).run Tryd.prog W = .ok v' w' := e1
    rw [hr] at e1
    injection e1 with e1 _
    subst e1
    have := e2.int_inv
    injection this with _ this
    rw [this]
theorem byte_of {n : Int} (h : (Lit.int .u8 n).wf = true) : ∃ m : Nat, n = (m : Int) ∧ m < 256 := by
  simp [Lit.wf, IntKind.min, IntKind.max, IntKind.bits, IntKind.signed] at h
  exact ⟨n.toNat, by omega, by omega⟩
theorem slr_bytes {σ : AHeap} {v : Value} {A : List (Fin 256)} (h : SlR σ 1 (fun z : Fin 256 => encB z.val) v A) : SlR σ 1 encB v (A.map (·.val)) := by
  rcases h with ⟨a, c, rfl, rfl⟩ | ⟨b, o, cap, rfl, h2, h3⟩
  · exact .inl ⟨a, c, rfl, rfl⟩
  · refine .inr ⟨b, o, cap, by rw [List.length_map], h2, fun i x hi => ?_⟩
    rw [List.getElem?_map] at hi
    cases hx : A[i]? with
    | none => rw [hx] at hi; cases hi
    | some z => rw [hx] at hi; cases hi; exact h3 i z hx
theorem byt_fin (A : List (Fin 256)) : Byt (A.map (·.val)) := fun b hb => by
  obtain ⟨z, _, rfl⟩ := List.mem_map.1 hb
  exact z.isLt
theorem dec_u8 {H : Type} {enc : TypeId × Value → H} {w : World} {held : Bool} : ∀ m cs y, DataW.trod enc Tryd.prog w 0 (fun _ => true) held m 5 cs = some y → ∃ z : Fin 256, cs = encB z.val := fun m cs y h => by
  obtain ⟨n, rfl, _, hw⟩ := DataW.trod_int Tryd.underlying5 h
  obtain ⟨k, rfl, hk⟩ := byte_of hw
  exact ⟨⟨k, hk⟩, rfl⟩
theorem orc_none {D : Prop} {P : Program} {gs : List Nat} : OrcS D P gs (fun _ => none) := fun f g h => by cases h
end Go.Proofs.YtongccpmdndcgaaDoor.Icm
end
