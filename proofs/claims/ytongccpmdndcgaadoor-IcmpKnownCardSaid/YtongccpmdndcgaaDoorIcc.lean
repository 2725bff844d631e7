/- Texts of this proof, gathered. What each part says stands at its head; conditions: none but those that its theorems name. -/
import Derived.Test.YtongccpmdndcgaaDoorIcb
import Derived.Test.YtongccpmdndcgaaDoorE4
import Derived.Maps.Keyed
import Derived.Maps.Own
import Derived.Maps.OwnSet
import Derived.LaidMore
import Derived.LaidSub
import Derived.MakeChecks
import Derived.Test.YtongccpmdndcgaaDoorRows
import Derived.OpenShut
/- The law's own run. -/
section
set_option linter.all false
namespace Go.Proofs.YtongccpmdndcgaaDoor.Icm
open Go Go.AE Go.Proofs
set_option maxRecDepth 100000
set_option maxHeartbeats 4000000
attribute [local irreducible] Go.AE.Tr.put Go.AE.Tr.get
variable {gs : List Nat} {orc : Orc} {n : Nat} {σ : AHeap} {Q : Value × AHeap → Prop}

end Go.Proofs.YtongccpmdndcgaaDoor.Icm
end
/- What came in beside listed variables: generic laws. -/
section
set_option linter.all false
namespace Go.AE
open Go.RowKit Go.ChangeShapes Go.WideShapes
variable {D : Prop} {P : Program}
section
variable {α : Type} {k : Nat} {enc' : α → List Value}
end
/-- A listed variable that holds a map: the memory that a run may read. -/
def mapHeap (g : Nat) (e : TypeId) (es : List MapEntry) (cl : Nat) : AHeap := ⟨g + 2, ((Tr.leaf : Tr AObj).put g (some (.cells 1 (Tr.ofList [.map (some (g + 1))] 0 .leaf) e false true))).put (g + 1) (some (.map es cl true))⟩
def mapRen (g : Nat) (e : TypeId) (bm n : Nat) : Ren := fun b => if b = g then some ⟨g, 0, e, n, false⟩ else if b = g + 1 then some ⟨bm, 0, 0, 0, false⟩ else none
theorem mapHeap_get {g : Nat} {e : TypeId} {es : List MapEntry} {cl b : Nat} : (mapHeap g e es cl).get b = if b = g + 1 then some (.map es cl true) else if b = g then some (.cells 1 (Tr.ofList [.map (some (g + 1))] 0 .leaf) e false true) else none := by
  unfold mapHeap AHeap.get
  simp only [Tr.get_put]
  split
  · rfl
  · split <;> rfl
theorem mapHeap_ro {g : Nat} {e : TypeId} {es : List MapEntry} {cl : Nat} : ∀ b o, (mapHeap g e es cl).get b = some o → o.ro = true := by
  intro b o h
  rw [mapHeap_get] at h
  split at h
  · cases h; rfl
  · split at h
    · cases h; rfl
    · cases h
theorem mapHeap_rel {w : World} {g bm cl : Nat} {e : TypeId} {cs : Array Value} {fz : Nat × Nat} {es : Array MapEntry} (hg : w.heap[g]? = some (.cells cs e fz)) (h0 : cs[0]? = some (.map (some bm))) (hb : w.heap[bm]? = some (.map es cl)) (hat : ∀ x ∈ es.toList, atom x.key = true ∧ atom x.val = true) :
    Rel P (mapRen g e bm cs.size) (mapHeap g e es.toList cl) w := by
  refine ⟨fun b hb' => ?_, fun b m hm => ?_, fun b o ho => ?_, fun b1 b2 o1 o2 m1 m2 e1 _ _ _ hr _ => ?_⟩
  · have h1 : g + 2 ≤ b := hb'
    unfold mapRen
    rw [if_neg (by omega), if_neg (by omega)]
  · unfold mapRen at hm
    split at hm
    · cases hm; exact (Array.getElem?_eq_some_iff.1 hg).1
    · split at hm
      · cases hm; exact (Array.getElem?_eq_some_iff.1 hb).1
      · cases hm
  · rw [mapHeap_get] at ho
    split at ho
    · rename_i h1
      cases ho
      refine ⟨⟨bm, 0, 0, 0, false⟩, by unfold mapRen; rw [if_neg (by omega), if_pos h1], rfl, es, hb, rfl, fun i x y hx hy => ?_⟩
      rw [hx] at hy
      cases hy
      obtain ⟨a1, a2⟩ := hat x (List.mem_of_getElem? hx)
      exact ⟨.atom a1, .atom a2, rfl⟩
    · split at ho
      · rename_i h1 h2
        cases ho
        refine ⟨⟨g, 0, e, cs.size, false⟩, by unfold mapRen; rw [if_pos h2], rfl, rfl, cs, fz, hg, rfl, (fun q => by cases q), fun i v hi => ?_⟩
        rw [Tr.get_of] at hi
        cases i with
        | zero =>
          simp at hi
          subst hi
          refine ⟨.map (some bm), by simpa using h0, ?_⟩
          exact VR.map (m := ⟨bm, 0, 0, 0, false⟩) (by unfold mapRen; rw [if_neg (by omega), if_pos rfl])
        | succ i => simp at hi
      · cases ho
  · have := mapHeap_ro b1 o1 e1; rw [hr] at this; cases this
theorem mapRen_gl {g : Nat} {e : TypeId} {bm n : Nat} : Gl [g] (mapRen g e bm n) := fun x hx => by
  simp at hx
  subst hx
  exact ⟨⟨x, 0, e, n, false⟩, by unfold mapRen; rw [if_pos rfl], rfl, rfl⟩
end Go.AE
end
/- The listed table of kinds; a message that came in. -/
section
set_option linter.all false
namespace Go.Proofs.YtongccpmdndcgaaDoor.Icm
open Go Go.AE Go.Proofs Go.RowKit Go.ChangeShapes Go.WideShapes Go.Maps
set_option maxRecDepth 100000
set_option maxHeartbeats 1000000

theorem laid_at {P : Program} {w : World} {l : List (String × DataW Unit)} {n : String} {d : DataW Unit} : ∀ {ps : List MemPlace}, DataW.LaidVars P w l ps → (n, d) ∈ l →
    ∃ g t cs fuel p, P.globalNamed n = some g ∧ (P.globals[g]?).map (·.type) = some t ∧ w.var? P n = some cs ∧ DataW.trod (fun _ => ()) P w 0 (fun _ => true) false fuel t cs.toList = some (d, p) := by
  induction l with
  | nil => intro ps _ h; cases h
  | cons x r ih =>
    intro ps h hm
    obtain ⟨g, t, cs, fuel, p, q, h1, h2, h3, h4, h5, _⟩ := h
    rcases List.mem_cons.1 hm with e | hm
    · cases e
      exact ⟨g, t, cs, fuel, p, h1, h2, h3, h4⟩
    · exact ih h5 hm
theorem laid_vars {l : List (String × DataW Unit)} {W : World} (hp : (l.all fun x => x.2.handleName?.isNone) = true) (h : laidMetH Tryd.prog l W) : ∃ ps, DataW.LaidVars Tryd.prog W l ps := by
  rw [MakeChecks.laidMetH_plain _ _ _ hp] at h
  obtain ⟨ps, h, _⟩ := h
  exact ⟨ps, h⟩
def isKind (t : Nat) : Bool := match (Rows.laid_toll_icmp_kinds : DataW Unit).atKey (.int .u8 (t : Int)) (.lit (.int .i64 0)) with | .lit (.int .i64 n) => n == (kindN t : Int) | _ => false
theorem isKind_all : ∀ t : Nat, t < 256 → isKind t = true := by decide +kernel
theorem kind_at (t : Nat) (h1 : t < 256) (c : Int) (h : (Rows.laid_toll_icmp_kinds : DataW Unit).atKey (.int .u8 (t : Int)) (.lit (.int .i64 0)) = .lit (.int .i64 c)) : c = (kindN t : Int) := by
  have := isKind_all t h1
  unfold isKind at this
  rw [h] at this
  simpa using this
theorem find_some {es : List MapEntry} (h : ∀ x ∈ es, ∃ a, x.key = .int .u8 a) (t : Int) : ∀ i, ∃ r, findKey' Tryd.prog 5 false (.int .u8 t) es i = some r ∧ ∀ j e, r = some (j, e) → e ∈ es := by
  induction es with
  | nil => exact fun i => ⟨none, rfl, fun _ _ e => by cases e⟩
  | cons x es ih =>
    intro i
    obtain ⟨a, ha⟩ := h x (List.mem_cons_self ..)
    have he : keyEq Tryd.prog 5 false (.int .u8 t) x.key = some (decide (t = a)) := by
      rw [ha]
      show pureP Tryd.prog (Op.equal 5 (.int .u8 t) (.int .u8 a)) = _
      exact eq_int Tryd.underlying5
    unfold findKey'
    rw [he]
    by_cases q : t = a
    · rw [decide_eq_true q]
      exact ⟨some (i, x), rfl, fun j e w => by cases w; exact List.mem_cons_self ..⟩
    · rw [decide_eq_false q]
      obtain ⟨r, h1, h2⟩ := ih (fun y hy => h y (List.mem_cons_of_mem _ hy)) (i + 1)
      exact ⟨r, h1, fun j e w => List.mem_cons_of_mem _ (h2 j e w)⟩
theorem lookup_int {es : List MapEntry} {M cl : Nat} {σ : AHeap} (hg : σ.get M = some (.map es cl true)) (hk : ∀ x ∈ es, ∃ a, x.key = .int .u8 a) (hv : ∀ x ∈ es, ∃ a, x.val = .int .i64 a) (t : Int) : ∃ z, lookup' Tryd.prog 53 (.map (some M)) (.int .u8 t) false σ = some (.int .i64 z) := by
  obtain ⟨r, h1, h2⟩ := find_some hk t 0
  have hs : isStr Tryd.prog 5 = false := by unfold isStr; rw [Tryd.underlying5]
  have ho : keyOk Tryd.prog 5 (.int .u8 t) = true := by unfold keyOk easyKey; rw [Tryd.underlying5]; rfl
  unfold lookup'
  rw [Tryd.underlying53]
  simp only [ho, entriesOf, hg, hs, h1]
  cases r with
  | none => exact ⟨0, by rw [show zeroOf Tryd.prog 3 = some (.int .i64 0) by kernel_rfl]; rfl⟩
  | some p =>
    obtain ⟨j, e⟩ := p
    obtain ⟨a, ha⟩ := hv e (h2 j e rfl)
    exact ⟨a, by simp [ha]⟩
theorem kinds_base {l : List (String × DataW Unit)} {W : World} {ps : List MemPlace} (h : DataW.LaidVars Tryd.prog W l ps) (hm : ("toll/icmp.kinds", Rows.laid_toll_icmp_kinds) ∈ l) :
    ∃ σ ρ, Rel Tryd.prog ρ σ W ∧ Gl [0] ρ ∧ Glb σ ∧ ∀ b o, σ.get b = some o → o.ro = true := by
  obtain ⟨g, t, cs, fuel, p, hg, ht, hv, hd⟩ := laid_at h hm
  obtain rfl := Option.some.inj ((show Tryd.prog.globalNamed "toll/icmp.kinds" = some 0 by kernel_rfl).symm.trans hg)
  obtain rfl := Option.some.inj ((show (Tryd.prog.globals[0]?).map (·.type) = some 53 by kernel_rfl).symm.trans ht)
  have hd' : DataW.trod (fun _ => ()) Tryd.prog W 0 (fun _ => true) false fuel 53 cs.toList = some (Rows.laid_toll_icmp_kinds, p) := hd
  rcases WideElems.open_map Tryd.underlying53 hd' with ⟨_, hx⟩ | ⟨bm, es, clock, m, rfl, hcs, hb, _, F, hx⟩
  · simp [Rows.laid_toll_icmp_kinds] at hx
  · simp only [Prod.mk.injEq] at hx
    have hown := World.ownsMap_of_fit (R := plainElem Tryd.prog 3) hb F (fun x _ z hz => elemAt_plainElem_int Tryd.underlying3 hz)
    rw [← hx.1] at hown
    have hc := World.var?_cell hg hv 0
    rw [← Array.getElem?_toList, hcs] at hc
    have hc : W.cell? ⟨0, 0, none⟩ = some (.map (some bm)) := hc
    obtain ⟨cs0, e0, fz, h0, h00⟩ : ∃ cs0 e0 fz, W.heap[0]? = some (.cells cs0 e0 fz) ∧ cs0[0]? = some (.map (some bm)) := by
      unfold World.cell? at hc
      simp only at hc
      split at hc
      · rename_i c1 c2 c3 hq; exact ⟨_, _, _, hq, hc⟩
      · cases hc
    have hkey : ∀ x ∈ es.toList, ∃ a, x.key = .int .u8 a := fun x hx => by
      obtain ⟨y, hy⟩ := F.reads x hx
      have := WideElems.rd_key hy
      rw [keyOf_int Tryd.underlying5] at this
      unfold mapKey at this
      rw [Tryd.underlying5] at this
      cases hxk : x.key <;> rw [hxk] at this <;> simp at this
      obtain ⟨⟨rfl, _⟩, _⟩ := this
      exact ⟨_, rfl⟩
    have hval : ∀ x ∈ es.toList, ∃ a, x.val = .int .i64 a := fun x hx => by
      obtain ⟨y, hy⟩ := F.reads x hx
      obtain ⟨z, hz, _⟩ := WideElems.rd_val hy
      obtain ⟨a, ha, _⟩ := WideElems.elemAt_int Tryd.underlying3 hz
      exact ⟨a, ha⟩
    have hR : Rel Tryd.prog (mapRen 0 e0 bm cs0.size) (mapHeap 0 e0 es.toList clock) W := mapHeap_rel h0 h00 hb fun x hx => by
      obtain ⟨a, ha⟩ := hkey x hx
      obtain ⟨b, hb⟩ := hval x hx
      rw [ha, hb]
      exact ⟨rfl, rfl⟩
    have g1 : (mapHeap 0 e0 es.toList clock).get 1 = some (.map es.toList clock true) := by rw [mapHeap_get, if_pos rfl]
    refine ⟨_, _, hR, mapRen_gl, ⟨1, es.toList, clock, 1, _, e0, false, true, (show 0 < 0 + 2 by omega), (show 1 < 0 + 2 by omega), by rw [mapHeap_get, if_neg (by omega), if_pos rfl], rfl, g1, fun t σ' ht hg' => ?_⟩, mapHeap_ro⟩
    obtain ⟨z, hz⟩ := lookup_int g1 hkey hval (t : Int)
    have hsame : lookup' Tryd.prog 53 (.map (some 1)) (.int .u8 (t : Int)) false σ' = lookup' Tryd.prog 53 (.map (some 1)) (.int .u8 (t : Int)) false (mapHeap 0 e0 es.toList clock) := by
      simp only [lookup', entriesOf, hg', g1]
    rw [hsame, hz]
    have wf : (Lit.int .u8 (t : Int)).wf = true := by simp [Lit.wf, IntKind.min, IntKind.max, IntKind.signed, IntKind.bits]; omega
    obtain ⟨c, hr, ha, _⟩ := hown.lookup_int (int_keyed Tryd.underlying5) Tryd.underlying53 Tryd.underlying3 (by kernel_rfl) (keyOf_int_mk Tryd.underlying5 wf)
    obtain rfl := kind_at t ht c ha
    obtain ⟨ρ', v', w', e1, e2, _⟩ := lookup_out (D := True) hz hR (VR.map (m := ⟨bm, 0, 0, 0, false⟩) (by unfold mapRen; rw [if_neg (by omega), if_pos rfl])) (.atom rfl)
    have e1 : (Instr.lookup 53 (.map (some bm)) (.int .u8 (t : Int)) false).run Tryd.prog W = .ok v' w' := e1
    rw [hr] at e1
    injection e1 with e1 _
    subst e1
    have := e2.int_inv
    injection this with _ this
    rw [this]
theorem orc_none {D : Prop} {P : Program} {gs : List Nat} : OrcS D P gs (fun _ => none) := fun f g h => by cases h
end Go.Proofs.YtongccpmdndcgaaDoor.Icm
end
