/- Texts of this proof, gathered. What each part says stands at its head; conditions: none but those that its theorems name. -/
import Derived.Test.YtongccpmdndcgaaAlm
import Derived.Test.YtongccpmdndcgaaE4
/- Tables: plain laws on entries by rising keys, and the alarms that belong to them. -/
section
set_option linter.all false
namespace Go.Proofs.Ytongccpmdndcgaa.Tab
open Go Go.AE Go.Proofs.Ytongccpmdndcgaa.Alm
section
variable {V : Type}
/-- An entry: its key, its value, its deadline, whether it is static. -/
abbrev En (V : Type) := ByteArray × V × Int × Bool
def getE (k : ByteArray) (T : List (En V)) : Option (En V) := T.find? fun e => decide (e.1 = k)
def delE (k : ByteArray) (T : List (En V)) : List (En V) := T.filter fun e => !decide (e.1 = k)
def insE (e : En V) : List (En V) → List (En V)
  | [] => [e]
  | y :: l => if sLt e.1 y.1 then e :: y :: l else y :: insE e l
def putE (e : En V) (T : List (En V)) : List (En V) := insE e (delE e.1 T)
def KS (T : List (En V)) : Prop := T.Pairwise fun a b => sLt a.1 b.1 = true
def ND (T : List (En V)) : Prop := (T.map (·.1)).Nodup
theorem KS.nd {T : List (En V)} (h : KS T) : ND T := by
  unfold ND
  rw [List.Nodup, List.pairwise_map]
  exact h.imp fun {a b} q e => by rw [e, sLt_irr] at q; cases q
theorem getE_none {k : ByteArray} {T : List (En V)} : getE k T = none ↔ ∀ e ∈ T, e.1 ≠ k := by
  unfold getE; rw [List.find?_eq_none]; simp
theorem getE_key {k : ByteArray} {T : List (En V)} {e : En V} (h : getE k T = some e) : e ∈ T ∧ e.1 = k := by
  unfold getE at h
  exact ⟨List.mem_of_find?_eq_some h, by simpa using List.find?_some h⟩
theorem getE_mem : ∀ {T : List (En V)}, ND T → ∀ {e : En V}, e ∈ T → getE e.1 T = some e
  | [], _, e, he => by cases he
  | y :: l, h, e, he => by
    unfold getE
    rw [List.find?_cons]
    rcases List.mem_cons.1 he with rfl | he
    · simp
    · have hn : y.1 ≠ e.1 := fun q => by
        have := (List.nodup_cons.1 h).1
        exact this (List.mem_map.2 ⟨e, he, q.symm⟩)
      simp only [decide_eq_false hn]
      exact getE_mem (List.nodup_cons.1 h).2 he
theorem getE_iff {T : List (En V)} (h : ND T) {k : ByteArray} {e : En V} : getE k T = some e ↔ e ∈ T ∧ e.1 = k :=
  ⟨getE_key, fun ⟨h1, h2⟩ => h2 ▸ getE_mem h h1⟩
theorem mem_delE {k : ByteArray} {T : List (En V)} {e : En V} : e ∈ delE k T ↔ e ∈ T ∧ e.1 ≠ k := by simp [delE]
theorem KS.del {k : ByteArray} {T : List (En V)} (h : KS T) : KS (delE k T) := h.sublist List.filter_sublist
theorem insE_perm (e : En V) : ∀ T, (insE e T).Perm (e :: T)
  | [] => .refl _
  | y :: l => by
    unfold insE
    split
    · exact .refl _
    · exact ((insE_perm e l).cons y).trans (.swap e y l)
theorem mem_insE {e x : En V} {T : List (En V)} : x ∈ insE e T ↔ x = e ∨ x ∈ T := by rw [(insE_perm e T).mem_iff, List.mem_cons]
theorem insE_ks {e : En V} : ∀ {T : List (En V)}, KS T → (∀ y ∈ T, y.1 ≠ e.1) → KS (insE e T)
  | [], _, _ => by simp [insE, KS]
  | y :: l, h, hn => by
    unfold insE
    have h1 := List.pairwise_cons.1 h
    split
    · rename_i q
      refine List.pairwise_cons.2 ⟨fun z hz => ?_, h⟩
      rcases List.mem_cons.1 hz with rfl | hz
      · exact q
      · exact sLt_trans q (h1.1 z hz)
    · rename_i q
      refine List.pairwise_cons.2 ⟨fun z hz => ?_, insE_ks h1.2 fun z hz => hn z (by simp [hz])⟩
      rcases mem_insE.1 hz with rfl | hz
      · rcases sLt_tri y.1 z.1 with w | w | w
        · exact w
        · exact absurd w (hn y (by simp))
        · exact absurd w (by simpa using q)
      · exact h1.1 z hz
theorem putE_ks {e : En V} {T : List (En V)} (h : KS T) : KS (putE e T) := insE_ks h.del fun y hy => (mem_delE.1 hy).2
theorem mem_putE {e x : En V} {T : List (En V)} : x ∈ putE e T ↔ x = e ∨ x ∈ T ∧ x.1 ≠ e.1 := by unfold putE; rw [mem_insE, mem_delE]
theorem opt_ext {α : Type} {a b : Option α} (h : ∀ x, a = some x ↔ b = some x) : a = b := by
  cases a with
  | none => cases b with
    | none => rfl
    | some y => exact (h y).2 rfl
  | some x => exact ((h x).1 rfl).symm
theorem getE_put {e : En V} {T : List (En V)} (h : KS T) {k : ByteArray} : getE k (putE e T) = if k = e.1 then some e else getE k T := by
  refine opt_ext fun x => ?_
  rw [getE_iff (putE_ks h).nd, mem_putE]
  split
  · rename_i q
    subst q
    constructor
    · rintro ⟨rfl | ⟨_, h2⟩, h3⟩
      · rfl
      · exact absurd h3 h2
    · intro w; cases w; exact ⟨.inl rfl, rfl⟩
  · rename_i q
    rw [getE_iff h.nd]
    constructor
    · rintro ⟨rfl | ⟨h1, h2⟩, h3⟩
      · exact absurd h3.symm q
      · exact ⟨h1, h3⟩
    · rintro ⟨h1, h2⟩; exact ⟨.inr ⟨h1, fun w => q (h2 ▸ w)⟩, h2⟩
theorem getE_del {T : List (En V)} (h : KS T) {k s : ByteArray} : getE k (delE s T) = if k = s then none else getE k T := by
  refine opt_ext fun x => ?_
  rw [getE_iff h.del.nd, mem_delE]
  split
  · rename_i q; subst q
    constructor
    · rintro ⟨⟨_, h2⟩, h3⟩; exact absurd h3 h2
    · intro w; cases w
  · rename_i q
    rw [getE_iff h.nd]
    constructor
    · rintro ⟨⟨h1, _⟩, h3⟩; exact ⟨h1, h3⟩
    · rintro ⟨h1, h2⟩; exact ⟨⟨h1, fun w => q (h2 ▸ w)⟩, h2⟩
theorem delE_not {k : ByteArray} {T : List (En V)} (h : getE k T = none) : delE k T = T := List.filter_eq_self.2 fun y hy => by simp [getE_none.1 h y hy]
theorem delE_len {k : ByteArray} {T : List (En V)} (h : KS T) : (delE k T).length + (if (getE k T).isSome then 1 else 0) = T.length := by
  cases q : getE k T with
  | none => rw [delE_not q]; simp
  | some e =>
    obtain ⟨h1, h2⟩ := getE_key q
    subst h2
    obtain ⟨A, B, rfl⟩ := List.append_of_mem h1
    have hp : (e :: (A ++ B)).Perm (A ++ e :: B) := List.perm_middle.symm
    have hn : ND (e :: (A ++ B)) := by have := h.nd; unfold ND at *; exact ((hp.map fun x : En V => x.1).nodup_iff).2 this
    have h3 : (delE e.1 (A ++ e :: B)).length = (delE e.1 (e :: (A ++ B))).length := (hp.symm.filter _).length_eq
    have h4 : delE e.1 (e :: (A ++ B)) = A ++ B := by
      have : delE e.1 (e :: (A ++ B)) = delE e.1 (A ++ B) := by unfold delE; rw [List.filter_cons_of_neg (by simp)]
      rw [this]
      refine List.filter_eq_self.2 fun y hy => ?_
      have := (List.nodup_cons.1 hn).1
      simp only [Bool.not_eq_true', decide_eq_false_iff_not]
      intro w
      exact this (List.mem_map.2 ⟨y, hy, w⟩)
    rw [h3, h4]
    simp
    omega
theorem putE_len {e : En V} {T : List (En V)} (h : KS T) : (putE e T).length = if (getE e.1 T).isSome then T.length else T.length + 1 := by
  have h1 := (insE_perm e (delE e.1 T)).length_eq
  have h2 := delE_len (k := e.1) h
  unfold putE
  rw [h1, List.length_cons]
  split <;> rename_i q <;> simp [q] at h2 <;> omega
/-! The alarms that belong. -/
def alsE (T : List (En V)) : List Al := (T.filter fun e => !e.2.2.2).map fun e => (e.1, e.2.2.1)
structure AlOf (L : List Al) (T : List (En V)) : Prop where
  perm : L.Perm (alsE T)
  srt : L.Pairwise lt
theorem mem_alsE {T : List (En V)} {x : Al} : x ∈ alsE T ↔ ∃ e ∈ T, e.2.2.2 = false ∧ (e.1, e.2.2.1) = x := by
  unfold alsE; simp only [List.mem_map, List.mem_filter, Bool.not_eq_true']
  constructor
  · rintro ⟨e, ⟨h1, h2⟩, h3⟩; exact ⟨e, h1, h2, h3⟩
  · rintro ⟨e, h1, h2, h3⟩; exact ⟨e, ⟨h1, h2⟩, h3⟩
theorem alsE_len (T : List (En V)) : (alsE T).length ≤ T.length := by unfold alsE; rw [List.length_map]; exact List.length_filter_le _ _
theorem AlOf.len {L : List Al} {T : List (En V)} (h : AlOf L T) : L.length ≤ T.length := by rw [h.perm.length_eq]; exact alsE_len T
theorem AlOf.uniq {L M : List Al} {T : List (En V)} (h : AlOf L T) (k : AlOf M T) : L = M := sorted_unique (h.perm.trans k.perm.symm) h.srt k.srt
theorem alsE_kd {T : List (En V)} (h : ND T) : KD (alsE T) := by
  unfold KD alsE
  rw [List.map_map]
  exact List.Nodup.sublist (List.filter_sublist.map _) h
theorem nodup_of_kd {L : List Al} (h : KD L) : L.Nodup := by
  unfold KD List.Nodup at h
  rw [List.pairwise_map] at h
  exact h.imp fun q e => q (by rw [e])
theorem AlOf.of {L : List Al} {T : List (En V)} (hT : KS T) (hk : KD L) (hs : L.Pairwise lt) (hm : ∀ x, x ∈ L ↔ x ∈ alsE T) : AlOf L T :=
  ⟨(List.perm_ext_iff_of_nodup (nodup_of_kd hk) (nodup_of_kd (alsE_kd hT.nd))).2 hm, hs⟩
theorem AlOf.kd {L : List Al} {T : List (En V)} (hT : KS T) (h : AlOf L T) : KD L := (alsE_kd hT.nd).perm h.perm.symm
theorem AlOf.mem {L : List Al} {T : List (En V)} (h : AlOf L T) {x : Al} : x ∈ L ↔ x ∈ alsE T := h.perm.mem_iff
/-- An entry laid, its alarm set. -/
theorem mem_setA {k : ByteArray} {t : Int} {L : List Al} {x : Al} : x ∈ setA k t L ↔ x = (k, t) ∨ x ∈ L ∧ x.1 ≠ k := by unfold setA; rw [(insA_perm _ _).mem_iff, List.mem_cons, mem_remA]
theorem KD_rem {k : ByteArray} {L : List Al} (h : KD L) : KD (remA k L) := by unfold KD at *; exact List.Nodup.sublist (List.filter_sublist.map _) h
theorem KD_set {k : ByteArray} {t : Int} {L : List Al} (h : KD L) : KD (setA k t L) := by
  have h1 : KD ((k, t) :: remA k L) := List.nodup_cons.2 ⟨fun q => by obtain ⟨y, hy, e⟩ := List.mem_map.1 q; exact (mem_remA.1 hy).2 e, KD_rem h⟩
  exact KD.perm h1 (insA_perm (k, t) (remA k L)).symm
theorem AlOf.put {L : List Al} {T : List (En V)} (hT : KS T) (h : AlOf L T) {e : En V} (he : e.2.2.2 = false) : AlOf (setA e.1 e.2.2.1 L) (putE e T) := by
  refine .of (putE_ks hT) (KD_set (h.kd hT)) (setA_pair h.srt) fun x => ?_
  rw [mem_setA, mem_alsE, h.mem, mem_alsE]
  constructor
  · rintro (rfl | ⟨⟨y, h1, h2, rfl⟩, h3⟩)
    · exact ⟨e, mem_putE.2 (.inl rfl), he, rfl⟩
    · exact ⟨y, mem_putE.2 (.inr ⟨h1, h3⟩), h2, rfl⟩
  · rintro ⟨y, h1, h2, rfl⟩
    rcases mem_putE.1 h1 with rfl | ⟨h1, h3⟩
    · exact .inl rfl
    · exact .inr ⟨⟨y, h1, h2, rfl⟩, h3⟩
theorem AlOf.fix {L : List Al} {T : List (En V)} (hT : KS T) (h : AlOf L T) {e : En V} (he : e.2.2.2 = true) : AlOf (remA e.1 L) (putE e T) := by
  refine .of (putE_ks hT) (KD_rem (h.kd hT)) (remA_pair h.srt) fun x => ?_
  rw [mem_remA, mem_alsE, h.mem, mem_alsE]
  constructor
  · rintro ⟨⟨y, h1, h2, rfl⟩, h3⟩; exact ⟨y, mem_putE.2 (.inr ⟨h1, h3⟩), h2, rfl⟩
  · rintro ⟨y, h1, h2, rfl⟩
    rcases mem_putE.1 h1 with rfl | ⟨h1, h3⟩
    · rw [he] at h2; cases h2
    · exact ⟨⟨y, h1, h2, rfl⟩, h3⟩
theorem AlOf.del {L : List Al} {T : List (En V)} (hT : KS T) (h : AlOf L T) (k : ByteArray) : AlOf (remA k L) (delE k T) := by
  refine .of hT.del (KD_rem (h.kd hT)) (remA_pair h.srt) fun x => ?_
  rw [mem_remA, mem_alsE, h.mem, mem_alsE]
  constructor
  · rintro ⟨⟨y, h1, h2, rfl⟩, h3⟩; exact ⟨y, mem_delE.2 ⟨h1, h3⟩, h2, rfl⟩
  · rintro ⟨y, h1, h2, rfl⟩
    obtain ⟨h1, h3⟩ := mem_delE.1 h1
    exact ⟨⟨y, h1, h2, rfl⟩, h3⟩
theorem AlOf.nil : AlOf [] ([] : List (En V)) := ⟨.refl _, .nil⟩
end
end Go.Proofs.Ytongccpmdndcgaa.Tab
end
/- Tables in memory: what is there, and the small methods. -/
section
set_option linter.all false
namespace Go.Proofs.Ytongccpmdndcgaa.Tab
open Go Go.AE Go.Proofs.Ytongccpmdndcgaa.Alm
set_option maxRecDepth 100000
attribute [local irreducible] Go.AE.Tr.put Go.AE.Tr.get
variable {gs : List Nat} {orc : Orc} {n : Nat} {σ : AHeap} {Q : Value × AHeap → Prop}

abbrev E := En Int
abbrev zE : E := (⟨#[]⟩, 0, 0, false)
def encE (e : E) : List Value := [.string e.1, .int .i64 e.2.1, .int .i64 e.2.2.1, .bool e.2.2.2]
theorem encEOk : Enc 4 encE := ⟨fun _ => rfl, fun x v hv => by simp [encE] at hv; rcases hv with rfl | rfl | rfl | rfl <;> rfl, by omega⟩
def enV (e : E) : Value := .agg #[.string e.1, .int .i64 e.2.1, .int .i64 e.2.2.1, .bool e.2.2.2]
/-- A variable made and filled. -/
theorem newVar (σ : AHeap) (T : TypeId) (zs vs : List Value) (hl : vs.length = zs.length) (hs : ∀ v ∈ vs, single v = true) :
    ∃ σ1 σ2, (newCells σ T zs).2 = σ1 ∧ stCells σ1 σ.next 0 vs = some σ2 ∧ Same σ σ2 [] ∧ VarAt σ2 σ.next vs ∧ σ2.next = σ.next + 1 := by
  obtain ⟨σ2, t2, hv2, hS2, hn2⟩ := (VarAt.new σ T zs false).store hl hs
  have hS1 : Same σ (newCells σ T zs).2 [] := .newCells _ _ _ _
  exact ⟨_, σ2, rfl, t2, (hS1.app hS2).old fun b hb => by simp at hb; exact .inr (by omega), hv2, by rw [hn2, next_newCells]⟩
/-- A variable made. -/
theorem oneVar (σ : AHeap) (T : TypeId) (zs : List Value) (g : Bool) : ∃ σ1, (newCells σ T zs g).2 = σ1 ∧ Same σ σ1 [] ∧ VarAt σ1 σ.next zs ∧ σ1.next = σ.next + 1 := ⟨_, rfl, .newCells _ _ _ _, .new _ _ _ _, rfl⟩
structure MapE (M : Prs) (T : List E) : Prop where
  get : ∀ k, mget M k = (getE k T).map enV
  len : M.length = T.length
theorem MapE.nil : MapE [] [] := ⟨fun _ => rfl, rfl⟩
theorem MapE.put {M : Prs} {T : List E} (h : MapE M T) (hk : KS T) (e : E) : MapE (mput M e.1 (enV e)) (putE e T) := by
  refine ⟨fun k => ?_, ?_⟩
  · rw [mget_mput, getE_put hk]
    split
    · rfl
    · exact h.get k
  · rw [len_mput, putE_len hk, h.get, h.len, Option.isSome_map]
theorem MapE.del {M : Prs} {T : List E} (h : MapE M T) (hn : (M.map (·.1)).Nodup) (hk : KS T) (k : ByteArray) : MapE (mdel M k) (delE k T) := by
  refine ⟨fun s => ?_, ?_⟩
  · rw [mget_mdel, getE_del hk]
    split
    · rfl
    · exact h.get s
  · have h2 := delE_len (k := k) hk
    cases q : getE k T with
    | none =>
      rw [mdel_not (mget_none.1 (by rw [h.get, q]; rfl)), delE_not q, h.len]
    | some e =>
      have := len_mdel hn (s := k) (mget_some.1 (by rw [h.get, q]; rfl))
      rw [q] at h2
      have := h.len
      simp at h2
      omega
/-- The memory of a table. -/
structure TabP (σ : AHeap) (p m pa : Nat) (Fa : List Nat) (M : Prs) (L : List Al) (room : Nat) (ref : Bool) : Prop where
  obj : VarAt σ p [.map (some m), pt pa, .int .i64 (room : Int), .bool ref]
  mp : MapAt σ m M
  al : HAt σ pa Fa L
  ml : m < σ.next
  pm : p ≠ m
  pf : p ∉ Fa
  mf : m ∉ Fa
section
variable {p m pa room : Nat} {Fa : List Nat} {M : Prs} {L : List Al} {ref : Bool}
theorem TabP.same {σ' : AHeap} {G : List Nat} (h : TabP σ p m pa Fa M L room ref) (hs : Same σ σ' G) (h1 : p ∉ G) (h2 : m ∉ G) (h3 : ∀ b ∈ Fa, b ∉ G) : TabP σ' p m pa Fa M L room ref :=
  ⟨h.obj.same hs h1, h.mp.of_get (hs.get m h.ml h2), h.al.same hs h3, Nat.lt_of_lt_of_le h.ml hs.next, h.pm, h.pf, h.mf⟩
theorem TabP.same0 {σ' : AHeap} (h : TabP σ p m pa Fa M L room ref) (hs : Same σ σ' []) : TabP σ' p m pa Fa M L room ref := h.same hs nofun nofun nofun
theorem TabP.setM {o : AObj} {M' : Prs} (h : TabP σ p m pa Fa M L room ref) (h2 : MapAt (σ.set m o) m M') : TabP (σ.set m o) p m pa Fa M' L room ref := by
  have hS := Same.set σ m o
  exact ⟨h.obj.same hS (by simpa using h.pm), h2, h.al.same hS fun b hb q => h.mf (by simp at q; exact q ▸ hb), Nat.lt_of_lt_of_le h.ml hS.next, h.pm, h.pf, h.mf⟩
theorem TabP.call {σ' : AHeap} {F' : List Nat} {L' : List Al} (h : TabP σ p m pa Fa M L room ref) (hh : HAt σ' pa F' L') (hF : ∀ b ∈ F', b ∈ Fa ∨ σ.next ≤ b) (hS : Same σ σ' Fa) : TabP σ' p m pa F' M L' room ref :=
  ⟨h.obj.same hS h.pf, h.mp.of_get (hS.get m h.ml h.mf), hh, Nat.lt_of_lt_of_le h.ml hS.next, h.pm, fun q => by
    rcases hF p q with w | w
    · exact h.pf w
    · have := h.obj.1; omega, fun q => by
    rcases hF m q with w | w
    · exact h.mf w
    · have := h.ml; omega⟩
theorem TabP.ld0 (h : TabP σ p m pa Fa M L room ref) : ld σ p 0 = some (.map (some m)) := h.obj.ld rfl
theorem TabP.ld1 (h : TabP σ p m pa Fa M L room ref) : ld σ p 1 = some (pt pa) := h.obj.ld rfl
theorem TabP.ld2 (h : TabP σ p m pa Fa M L room ref) : ld σ p 2 = some (.int .i64 (room : Int)) := h.obj.ld rfl
theorem TabP.ld3 (h : TabP σ p m pa Fa M L room ref) : ld σ p 3 = some (.bool ref) := h.obj.ld rfl
/-- What the table's methods ask of the table of contracts. -/
structure FreeT (orc : Orc) : Prop extends Free3 orc where
  h36 : orc 36 = none
  h37 : orc 37 = none
  h38 : orc 38 = none
  h39 : orc 39 = none
  h40 : orc 40 = none
  h41 : orc 41 = none
  h42 : orc 42 = none
  h46 : orc 46 = none
  h47 : orc 47 = none
  h48 : orc 48 = none
  h49 : orc 49 = none
  h63 : orc 63 = none
  h115 : orc 115 = none
  h117 : orc 117 = none
  h118 : orc 118 = none
  h119 : orc 119 = none
  h120 : orc 120 = none
theorem tnone_run (f : FreeT orc) (h : TabP σ p m pa Fa M L room ref) : W (acall Try.prog gs orc (n + 1) 115 [pt p] σ) Q = Q (.bool false, σ) := by
  rw [W_start (m := 12) (keep := []) Try.func115 rfl (by kernel_rfl) (by kernel_rfl) (by first | rfl | assumption | exact f.h115) (by rfl)]
  simp (maxSteps := 2000000) only [B0, B1, B2, B3, B4, B5, B6, B7, Gd, extV, Nat.reduceLT, Nat.reduceEqDiff, Nat.reduceBEq, Nat.reduceAdd, Nat.reduceSub, Nat.reduceMul, ↓reduceIte, reduceCtorEq, if_true, if_false, ite_true, ite_false, Int.reduceLT, Int.reduceLE, ptr, Try.fa_195_0, Try.ld_193, h.ld0,  bin_nilp Try.underlying61,  bin_nilm Try.underlying193, rs_tmp (show Try.f115.results = #[.tmp 2] from rfl)]
theorem asks_run (f : FreeT orc) (h : TabP σ p m pa Fa M L room ref) (k : ByteArray) (t : Int) : W (acall Try.prog gs orc (n + 2) 118 [pt p, .string k, .int .i64 t] σ) Q = Q (.int .i64 (if bad k t then 1 else 0), σ) := by
  have d1 : (k = ⟨#[]⟩) = (k.size = 0) := propext size0.symm
  rw [W_start (m := 26) (keep := []) Try.func118 rfl (by kernel_rfl) (by kernel_rfl) (by first | rfl | assumption | exact f.h118) (by rfl)]
  by_cases c1 : k.size = 0
  · have hb : bad k t := .inl c1
    simp (maxSteps := 2000000) only [B0, B1, B2, B3, B4, B5, B6, B7, Gd, extV, Nat.reduceLT, Nat.reduceEqDiff, Nat.reduceBEq, Nat.reduceAdd, Nat.reduceSub, Nat.reduceMul, ↓reduceIte, reduceCtorEq, if_true, if_false, ite_true, ite_false, Int.reduceLT, Int.reduceLE, ptr, callV_func Try.enters_115, Try.len_9, tnone_run f h,  d1,  c1,  hb, rs_tmp (show Try.f118.results = #[.tmp 6] from rfl)]
  · by_cases c2 : 64 < (k.size : Int)
    · have hb : bad k t := .inr (.inl (by omega))
      simp (maxSteps := 2000000) only [B0, B1, B2, B3, B4, B5, B6, B7, Gd, extV, Nat.reduceLT, Nat.reduceEqDiff, Nat.reduceBEq, Nat.reduceAdd, Nat.reduceSub, Nat.reduceMul, ↓reduceIte, reduceCtorEq, if_true, if_false, ite_true, ite_false, Int.reduceLT, Int.reduceLE, ptr, callV_func Try.enters_115, Try.len_9, tnone_run f h,  d1,  c1,  c2,  hb, rs_tmp (show Try.f118.results = #[.tmp 6] from rfl)]
    · by_cases c3 : t < 0
      · have hb : bad k t := .inr (.inr (.inl c3))
        simp (maxSteps := 2000000) only [B0, B1, B2, B3, B4, B5, B6, B7, Gd, extV, Nat.reduceLT, Nat.reduceEqDiff, Nat.reduceBEq, Nat.reduceAdd, Nat.reduceSub, Nat.reduceMul, ↓reduceIte, reduceCtorEq, if_true, if_false, ite_true, ite_false, Int.reduceLT, Int.reduceLE, ptr, callV_func Try.enters_115, Try.len_9, tnone_run f h,  d1,  c1,  c2,  c3,  hb, rs_tmp (show Try.f118.results = #[.tmp 6] from rfl)]
      · by_cases c4 : 1099511627776 < t
        · have hb : bad k t := .inr (.inr (.inr c4))
          simp (maxSteps := 2000000) only [B0, B1, B2, B3, B4, B5, B6, B7, Gd, extV, Nat.reduceLT, Nat.reduceEqDiff, Nat.reduceBEq, Nat.reduceAdd, Nat.reduceSub, Nat.reduceMul, ↓reduceIte, reduceCtorEq, if_true, if_false, ite_true, ite_false, Int.reduceLT, Int.reduceLE, ptr, callV_func Try.enters_115, Try.len_9, tnone_run f h,  d1,  c1,  c2,  c3,  c4,  hb, rs_tmp (show Try.f118.results = #[.tmp 6] from rfl)]
        · have hb : ¬ bad k t := by unfold bad; omega
          simp (maxSteps := 2000000) only [B0, B1, B2, B3, B4, B5, B6, B7, Gd, extV, Nat.reduceLT, Nat.reduceEqDiff, Nat.reduceBEq, Nat.reduceAdd, Nat.reduceSub, Nat.reduceMul, ↓reduceIte, reduceCtorEq, if_true, if_false, ite_true, ite_false, Int.reduceLT, Int.reduceLE, ptr, callV_func Try.enters_115, Try.len_9, tnone_run f h,  d1,  c1,  c2,  c3,  c4,  hb, rs_tmp (show Try.f118.results = #[.tmp 6] from rfl)]
theorem takes_run (f : FreeT orc) (h : TabP σ p m pa Fa M L room ref) (k : ByteArray) {e : E} (he : (mget M k).getD (enV zE) = enV e) (hn : L.length ≤ n) (hN : L.length ≤ 1048576)
    (hQ : ∀ σ', TabP σ' p m pa Fa (mdel M k) (remA k L) room ref → Same σ σ' (m :: Fa) → Q (enV e, σ')) :
    W (acall Try.prog gs orc (n + 11) 120 [pt p, .string k] σ) Q := by
  obtain ⟨σ1, e1, hS1, hv1, hn1⟩ := oneVar σ 69 (encE zE) false
  have h1 := h.same0 hS1
  have hlk := lookup_spec Try.underlying193 Try.underlying9 Try.zero_69 h1.mp k false
  simp only [encE] at e1 hv1
  have he' : (mget M k).getD (.agg #[.string ⟨#[]⟩, .int .i64 0, .int .i64 0, .bool false]) = enV e := he
  simp only [he', Bool.false_eq_true, if_false] at hlk
  obtain ⟨σ2, σ3, e2, t3, hS3, hv3, hn3⟩ := newVar σ1 69 (encE zE) (encE e) rfl (encEOk.single e)
  have h3 := h1.same0 hS3
  obtain ⟨o, t4, h4⟩ := del_spec Try.underlying193 Try.underlying9 h3.mp k
  have h4' := h3.setM h4
  have hS4 := Same.set σ3 m o
  simp only [encE] at e2 t3
  rw [W_start (m := 24) (keep := []) Try.func120 rfl (by kernel_rfl) (by kernel_rfl) (by first | rfl | assumption | exact f.h120) (by rfl)]
  simp (maxSteps := 2000000) only [B0, B1, B2, B3, B4, B5, B6, B7, Gd, extV, Nat.reduceLT, Nat.reduceEqDiff, Nat.reduceBEq, Nat.reduceAdd, Nat.reduceSub, Nat.reduceMul, ↓reduceIte, reduceCtorEq, if_true, if_false, ite_true, ite_false, Int.reduceLT, Int.reduceLE, ptr, allocV_zero Try.zero_69, Try.fa_195_0, Try.ld_193, Try.st_69, Try.fa_195_1, Try.ld_23, callV_func Try.enters_30, Try.ld_69, e1,  h1.ld0,  hlk,  e2,  t3,  enV,  Value.cells,  List.size_toArray,  h3.ld0,  builtin_del t4,  h4'.ld1, rs_c (show Try.f120.results = #[.cell 4 69] from rfl)]
  refine drop_run f.toFree3 h4'.al k (by omega) hN fun σ5 h5 hS5 => ?_
  have h5' := h4'.call h5 (fun b hb => .inl hb) hS5
  have hlo := h.al.low
  have v3 : VarAt σ5 σ1.next (encE e) := (hv3.same hS4 (by have := h.ml; simp; omega)).same hS5 (fun q => by have := hlo _ q; omega)
  have v1 : VarAt σ5 σ.next (encE zE) := ((hv1.same hS3 nofun).same hS4 (by have := h.ml; simp; omega)).same hS5 (fun q => by have := hlo _ q; omega)
  have l3 : ldCells σ5 σ1.next 0 4 = some (encE e) := v3.ldCells
  obtain ⟨σ6, t6, hv6, hS6, hn6⟩ := v1.store (vs' := encE e) rfl (encEOk.single e)
  have l6 : ldCells σ6 σ.next 0 4 = some (encE e) := hv6.ldCells
  simp only [encE] at l3 t6 l6
  simp (maxSteps := 2000000) only [B0, B1, B2, B3, B4, B5, B6, B7, Gd, extV, Nat.reduceLT, Nat.reduceEqDiff, Nat.reduceBEq, Nat.reduceAdd, Nat.reduceSub, Nat.reduceMul, ↓reduceIte, reduceCtorEq, if_true, if_false, ite_true, ite_false, Int.reduceLT, Int.reduceLE, ptr, allocV_zero Try.zero_69, Try.fa_195_0, Try.ld_193, Try.st_69, Try.fa_195_1, Try.ld_23, callV_func Try.enters_30, Try.ld_69, l3,  t6,  l6,  Value.cells,  List.size_toArray, rs_c (show Try.f120.results = #[.cell 4 69] from rfl)]
  refine hQ σ6 (h5'.same hS6 (by have := h.obj.1; simp; omega) (by have := h.ml; simp; omega) (fun b hb q => by have := hlo _ hb; simp at q; omega)) ?_
  exact ((((hS1.app hS3).app hS4).app hS5).app hS6).old fun b hb => by
    simp at hb
    rcases hb with hb | hb | hb
    · exact .inl (by simp [hb])
    · exact .inl (by simp [hb])
    · exact .inr (by omega)
end
end Go.Proofs.Ytongccpmdndcgaa.Tab
end
/- Tables: what lays an entry. -/
section
set_option linter.all false
namespace Go.Proofs.Ytongccpmdndcgaa.Tab
open Go Go.AE Go.Proofs.Ytongccpmdndcgaa.Alm
set_option maxRecDepth 100000
set_option maxHeartbeats 1000000
attribute [local irreducible] Go.AE.Tr.put Go.AE.Tr.get
variable {gs : List Nat} {orc : Orc} {n : Nat} {σ : AHeap} {Q : Value × AHeap → Prop}

/-- The alarms of a table, in order. -/
def alS (T : List E) : List Al := (alsE T).foldr insA []
theorem foldr_ins : ∀ L : List Al, KD L → (L.foldr insA []).Pairwise lt ∧ (L.foldr insA []).Perm L
  | [], _ => ⟨.nil, .refl _⟩
  | x :: l, h => by
    obtain ⟨h1, h2⟩ := foldr_ins l (List.nodup_cons.1 h).2
    refine ⟨insA_pair h1 fun y hy e => ?_, (insA_perm _ _).trans (h2.cons x)⟩
    have := (List.nodup_cons.1 h).1
    exact this (List.mem_map.2 ⟨y, h2.mem_iff.1 hy, e⟩)
theorem alS_of {T : List E} (h : KS T) : AlOf (alS T) T := by
  obtain ⟨h1, h2⟩ := foldr_ins (alsE T) (alsE_kd h.nd)
  exact ⟨h2, h1⟩
theorem alS_eq {T : List E} {L : List Al} (hT : KS T) (h : AlOf L T) : L = alS T := h.uniq (alS_of hT)
theorem alS_len {T : List E} (h : KS T) : (alS T).length ≤ T.length := (alS_of h).len
theorem alS_put {T : List E} (h : KS T) {e : E} (he : e.2.2.2 = false) : setA e.1 e.2.2.1 (alS T) = alS (putE e T) := alS_eq (putE_ks h) ((alS_of h).put h he)
theorem alS_fix {T : List E} (h : KS T) {e : E} (he : e.2.2.2 = true) : remA e.1 (alS T) = alS (putE e T) := alS_eq (putE_ks h) ((alS_of h).fix h he)
theorem alS_del {T : List E} (h : KS T) (k : ByteArray) : remA k (alS T) = alS (delE k T) := alS_eq h.del ((alS_of h).del h k)
theorem alS_mem {T : List E} (h : KS T) {x : Al} : x ∈ alS T ↔ ∃ e ∈ T, e.2.2.2 = false ∧ (e.1, e.2.2.1) = x := by rw [(alS_of h).mem, mem_alsE]
/-- What an entry may be. -/
def okE (e : E) : Prop := ¬ bad e.1 e.2.2.1
theorem okE_iff {e : E} : okE e ↔ 0 < e.1.size ∧ e.1.size ≤ 64 ∧ 0 ≤ e.2.2.1 ∧ e.2.2.1 ≤ 1099511627776 := by unfold okE bad; omega
/-- A table in memory. -/
structure TAt (σ : AHeap) (p : Nat) (F : List Nat) (T : List E) (room : Nat) (ref : Bool) : Prop where
  ex : ∃ m pa Fa M, TabP σ p m pa Fa M (alS T) room ref ∧ MapE M T ∧ F = p :: m :: Fa
  ks : KS T
  ok : ∀ e ∈ T, okE e
  len : T.length ≤ room
  rm : room ≤ 1024
theorem TAt.same {σ' : AHeap} {p room : Nat} {F G : List Nat} {T : List E} {ref : Bool} (h : TAt σ p F T room ref) (hs : Same σ σ' G) (hd : ∀ b ∈ F, b ∉ G) : TAt σ' p F T room ref := by
  obtain ⟨⟨m, pa, Fa, M, h1, h2, rfl⟩, a, b, c, d⟩ := h
  exact ⟨⟨m, pa, Fa, M, h1.same hs (hd p (by simp)) (hd m (by simp)) (fun x hx => hd x (by simp [hx])), h2, rfl⟩, a, b, c, d⟩
theorem TAt.low {p room : Nat} {F : List Nat} {T : List E} {ref : Bool} (h : TAt σ p F T room ref) : ∀ b ∈ F, b < σ.next := by
  obtain ⟨⟨m, pa, Fa, M, h1, h2, rfl⟩, a, b, c, d⟩ := h
  intro b hb
  simp at hb
  rcases hb with rfl | rfl | hb
  · exact h1.obj.1
  · exact h1.ml
  · exact h1.al.low b hb
theorem TAt.al_len {p room : Nat} {F : List Nat} {T : List E} {ref : Bool} (h : TAt σ p F T room ref) : (alS T).length ≤ 1024 := by have := alS_len h.ks; have := h.len; have := h.rm; omega
/-- What lay does: the table, what is gone, the code. -/
def layT (T : List E) (room : Nat) (ref : Bool) (e : E) : List E × E × Int :=
  if (getE e.1 T).isNone ∧ room ≤ T.length then
    match alS T with
    | [] => (T, zE, 7)
    | x :: _ => if ref then (T, zE, 7) else (putE e (delE x.1 T), (getE x.1 T).getD zE, 0)
  else (putE e T, zE, 0)
theorem headD_nil {x : Al} : List.headD [] x = x := rfl
/-- An entry laid at its place. -/
theorem lay_end (f : FreeT orc) {p m pa room : Nat} {Fa : List Nat} {M : Prs} {ref : Bool} {T : List E} (h : TabP σ p m pa Fa M (alS T) room ref) (hM : MapE M T) (hk : KS T) (hl : T.length ≤ 1024) {e : E} (he : okE e) :
    ∃ o, mapPut Try.prog 193 (.map (some m)) (.string e.1) (enV e) σ = some (σ.set m o) ∧ TabP (σ.set m o) p m pa Fa (mput M e.1 (enV e)) (alS T) room ref ∧ MapE (mput M e.1 (enV e)) (putE e T) := by
  have hs := okE_iff.1 he
  obtain ⟨o, t1, h1⟩ := put_spec Try.underlying193 Try.underlying9 h.mp (s := e.1) (by omega) (enV e)
  exact ⟨o, t1, h.setM h1, hM.put hk e⟩
end Go.Proofs.Ytongccpmdndcgaa.Tab
end
/- Tables: what lays an entry: the run. -/
section
set_option linter.all false
namespace Go.Proofs.Ytongccpmdndcgaa.Tab
open Go Go.AE Go.Proofs.Ytongccpmdndcgaa.Alm
set_option maxRecDepth 100000
set_option maxHeartbeats 1000000
attribute [local irreducible] Go.AE.Tr.put Go.AE.Tr.get
variable {gs : List Nat} {orc : Orc} {n : Nat} {σ : AHeap} {Q : Value × AHeap → Prop}

theorem sameE {a : ByteArray} {b c : Int} {d o : Bool} : sameV 6 (.tuple #[.agg #[.string a, .int .i64 b, .int .i64 c, .bool d], .bool o]) (.tuple #[.agg #[.string a, .int .i64 b, .int .i64 c, .bool d], .bool o]) = true := by simp [sameV]
theorem lay_run (f : FreeT orc) {p room : Nat} {F : List Nat} {T : List E} {ref : Bool} (h : TAt σ p F T room ref) {e : E} (he : okE e) (hn : 1024 < n)
    (hQ : ∀ σ' F', TAt σ' p F' (layT T room ref e).1 room ref → (∀ b ∈ F', b ∈ F ∨ σ.next ≤ b) → Same σ σ' F → Q (.tuple #[enV (layT T room ref e).2.1, .int .i64 (layT T room ref e).2.2], σ')) :
    W (acall Try.prog gs orc (n + 12) 119 [pt p, enV e] σ) Q := by
  obtain ⟨⟨m, pa, Fa, M, hp, hM, rfl⟩, hks, hok, hlen, hrm⟩ := h
  have hal := alS_len hks
  have hlow0 := hp.al.low
  have hml0 := hp.ml
  have hpo0 := hp.obj.1
  obtain ⟨σ1, e1, hS1, v3, hn1⟩ := oneVar σ 69 (encE e) false
  obtain ⟨σ2, e2, hS2, v4, hn2⟩ := oneVar σ1 69 (encE zE) false
  have v3' := v3.same hS2 nofun
  have hp2 := (hp.same0 hS1).same0 hS2
  have c0 : ld σ2 σ.next 0 = some (.string e.1) := v3'.ld rfl
  have hlk := lookup_spec Try.underlying193 Try.underlying9 Try.zero_69 hp2.mp e.1 true
  rw [hM.get] at hlk
  obtain ⟨g6, hg6⟩ : ∃ g6 : E, ((getE e.1 T).map enV).getD (enV zE) = enV g6 := by cases getE e.1 T <;> exact ⟨_, rfl⟩
  have hg6' : ((getE e.1 T).map enV).getD (.agg #[.string ⟨#[]⟩, .int .i64 0, .int .i64 0, .bool false]) = enV g6 := hg6
  rw [hg6', Option.isSome_map] at hlk
  simp only [if_true] at hlk
  obtain ⟨σ3, σ4, e3, t4, hS4, v6, hn4⟩ := newVar σ2 69 (encE zE) (encE g6) rfl (encEOk.single _)
  have hp4 := hp2.same0 hS4
  have hm4 := hp4.mp.len Try.underlying193 (ts := #[193]) rfl
  unfold goInt at hm4
  rw [hM.len] at hm4
  have vb3 := v3'.same hS4 nofun
  have vb4 := v4.same hS4 nofun
  rw [hn1] at vb4
  simp only [encE] at e1 e2 e3 t4
  have hS3 : Same σ2 σ3 [] := by rw [← e3]; exact .newCells _ _ _ _
  have c03 : ld σ3 σ.next 0 = some (.string e.1) := (v3'.same hS3 nofun).ld rfl
  have hp3 := hp2.same0 hS3
  have c04 : ld σ4 σ.next 0 = some (.string e.1) := vb3.ld rfl
  have hlk4 : ∀ {τ : AHeap}, Same σ2 τ [] → lookup' Try.prog 193 (.map (some m)) (.string e.1) true τ = some (.tuple #[.agg #[.string g6.1, .int .i64 g6.2.1, .int .i64 g6.2.2.1, .bool g6.2.2.2], .bool (getE e.1 T).isSome]) := fun hs => by
    have := lookup_spec Try.underlying193 Try.underlying9 Try.zero_69 (hp2.same0 hs).mp e.1 true
    rw [hM.get, hg6', Option.isSome_map] at this
    simpa [enV] using this
  have hlk3 := hlk4 hS3
  have hlk2 := hlk4 (.refl _ _)
  have hlk4 := hlk4 hS4
  have hS04 : Same σ σ4 [] := (hS1.trans hS2 nofun).trans hS4 nofun
  by_cases hev : (getE e.1 T).isNone ∧ room ≤ T.length
  · have hroom : (room : Int) ≤ (T.length : Int) := by omega
    have hsn : (getE e.1 T).isSome = false := by have := hev.1; cases hq : getE e.1 T with | none => rfl | some x => rw [hq] at this; cases this
    rw [W_start (m := 81) (keep := [1]) Try.func119 rfl (by kernel_rfl) (by kernel_rfl) (by first | rfl | assumption | exact f.h119) (by rfl)]
    simp (maxSteps := 2000000) only [B0, B1, B2, B3, B4, B5, B6, B7, Gd, extV, Nat.reduceLT, Nat.reduceEqDiff, Nat.reduceBEq, Nat.reduceAdd, Nat.reduceSub, Nat.reduceMul, ↓reduceIte, reduceCtorEq, if_true, if_false, ite_true, ite_false, Int.reduceLT, Int.reduceLE, ptr, allocV_zero Try.zero_69, Try.fa_195_0, Try.ld_193, Try.fa_69_0, Try.ld_9, Try.st_69, Try.fa_195_2, Try.ld_3, Try.fa_195_1, Try.ld_23, callV_func Try.enters_23, allocV_zero Try.zero_32, Try.st_32, Try.fa_195_3, Try.ld_4, Try.ld_69, Try.fa_32_0, callV_func Try.enters_120, Try.fa_69_3, callV_func Try.enters_30, Try.fa_69_2, Try.ld_2, callV_func Try.enters_28, hn1,  enV,  Value.cells,  e1,  e2, rs_ct (show Try.f119.results = #[.cell 4 69,  .tmp 5] from rfl)]
    refine Eq.mpr (W_retold (ps := [(10, 3), (10, 5), (10, 6)]) (by kernel_rfl) (by kernel_rfl) (by simp)) ?_
    simp (maxSteps := 2000000) only [B0, B1, B2, B3, B4, B5, B6, B7, Gd, extV, Nat.reduceLT, Nat.reduceEqDiff, Nat.reduceBEq, Nat.reduceAdd, Nat.reduceSub, Nat.reduceMul, ↓reduceIte, reduceCtorEq, if_true, if_false, ite_true, ite_false, Int.reduceLT, Int.reduceLE, ptr, allocV_zero Try.zero_69, Try.fa_195_0, Try.ld_193, Try.fa_69_0, Try.ld_9, Try.st_69, Try.fa_195_2, Try.ld_3, Try.fa_195_1, Try.ld_23, callV_func Try.enters_23, allocV_zero Try.zero_32, Try.st_32, Try.fa_195_3, Try.ld_4, Try.ld_69, Try.fa_32_0, callV_func Try.enters_120, Try.fa_69_3, callV_func Try.enters_30, Try.fa_69_2, Try.ld_2, callV_func Try.enters_28, hn1,  hp4.ld0,  c04,  hp3.ld0,  c03,  hlk3,  hlk2,  hlk4,  hp2.ld0,  c0,  enV,  Value.cells,  retells_eq,  sameE,  e3,  List.size_toArray,  t4,  hsn,  hp4.ld0,  hm4,  hp4.ld2,  hroom,  hp4.ld1, rs_ct (show Try.f119.results = #[.cell 4 69,  .tmp 5] from rfl)]
    refine next_run f.toFree3 hp4.al fun σ5 c hS5 hc0 hc1 => ?_
    have hp5 := hp4.same0 hS5
    have hn5 := hS5.next
    obtain ⟨σ6, σ7, e6, t7, hS7, v8, hn7⟩ := newVar σ5 32 [.string ⟨#[]⟩, .int .i64 0] [.string ((alS T).headD (⟨#[]⟩, 0)).1, .int .i64 ((alS T).headD (⟨#[]⟩, 0)).2] rfl (by intro v hv; simp at hv; rcases hv with rfl | rfl <;> rfl)
    have hp7 := hp5.same0 hS7
    have vb3 := (vb3.same hS5 nofun).same hS7 nofun
    have vb4 := (vb4.same hS5 nofun).same hS7 nofun
    have hS07 : Same σ σ7 [] := (hS04.trans hS5 nofun).trans hS7 nofun
    have l4 : ldCells σ7 (σ.next + 1) 0 4 = some (encE zE) := vb4.ldCells
    obtain ⟨σ8, t8, v8', hS8, hn8⟩ := vb4.store (vs' := encE zE) rfl (encEOk.single _)
    have l8 : ldCells σ8 (σ.next + 1) 0 4 = some (encE zE) := v8'.ldCells
    simp only [encE] at l4 t8 l8
    have full : layT T room ref e = (T, zE, 7) → Q (.tuple #[.agg #[.string ⟨#[]⟩, .int .i64 0, .int .i64 0, .bool false], .int .i64 7], σ8) := fun hq => by
      have hp8 := hp7.same hS8 (by simp; omega) (by simp; omega) (fun b hb q => by have := hlow0 b hb; simp at q; omega)
      have := hQ σ8 (p :: m :: Fa)
      rw [hq] at this
      exact this ⟨⟨m, pa, Fa, M, hp8, hM, rfl⟩, hks, hok, hlen, hrm⟩ (fun b hb => .inl hb) ((hS07.app hS8).old fun b hb => by simp at hb; exact .inr (by omega))
    cases hAl : alS T with
    | nil =>
      have c0 := hc0 hAl
      subst c0
      rw [hAl] at t7
      simp only [List.headD_nil] at t7
      cases ref with
      | true =>
        simp (maxSteps := 2000000) only [B0, B1, B2, B3, B4, B5, B6, B7, Gd, extV, Nat.reduceLT, Nat.reduceEqDiff, Nat.reduceBEq, Nat.reduceAdd, Nat.reduceSub, Nat.reduceMul, ↓reduceIte, reduceCtorEq, if_true, if_false, ite_true, ite_false, Int.reduceLT, Int.reduceLE, ptr, allocV_zero Try.zero_69, Try.fa_195_0, Try.ld_193, Try.fa_69_0, Try.ld_9, Try.st_69, Try.fa_195_2, Try.ld_3, Try.fa_195_1, Try.ld_23, callV_func Try.enters_23, allocV_zero Try.zero_32, Try.st_32, Try.fa_195_3, Try.ld_4, Try.ld_69, Try.fa_32_0, callV_func Try.enters_120, Try.fa_69_3, callV_func Try.enters_30, Try.fa_69_2, Try.ld_2, callV_func Try.enters_28, alV,  headD_nil,  e6,  t7,  Value.cells,  List.size_toArray,  hp7.ld3,  l4,  t8,  l8, rs_ct (show Try.f119.results = #[.cell 4 69,  .tmp 5] from rfl)]
        exact full (by unfold layT; rw [if_pos hev, hAl])
      | false =>
        simp (maxSteps := 2000000) only [B0, B1, B2, B3, B4, B5, B6, B7, Gd, extV, Nat.reduceLT, Nat.reduceEqDiff, Nat.reduceBEq, Nat.reduceAdd, Nat.reduceSub, Nat.reduceMul, ↓reduceIte, reduceCtorEq, if_true, if_false, ite_true, ite_false, Int.reduceLT, Int.reduceLE, ptr, allocV_zero Try.zero_69, Try.fa_195_0, Try.ld_193, Try.fa_69_0, Try.ld_9, Try.st_69, Try.fa_195_2, Try.ld_3, Try.fa_195_1, Try.ld_23, callV_func Try.enters_23, allocV_zero Try.zero_32, Try.st_32, Try.fa_195_3, Try.ld_4, Try.ld_69, Try.fa_32_0, callV_func Try.enters_120, Try.fa_69_3, callV_func Try.enters_30, Try.fa_69_2, Try.ld_2, callV_func Try.enters_28, alV,  headD_nil,  e6,  t7,  Value.cells,  List.size_toArray,  hp7.ld3,  l4,  t8,  l8, rs_ct (show Try.f119.results = #[.cell 4 69,  .tmp 5] from rfl)]
        exact full (by unfold layT; rw [if_pos hev, hAl])
    | cons x al =>
      have c1 := hc1 _ _ hAl
      subst c1
      rw [hAl] at t7 v8
      simp only [List.headD_cons] at t7 v8
      cases ref with
      | true =>
        simp (maxSteps := 2000000) only [B0, B1, B2, B3, B4, B5, B6, B7, Gd, extV, Nat.reduceLT, Nat.reduceEqDiff, Nat.reduceBEq, Nat.reduceAdd, Nat.reduceSub, Nat.reduceMul, ↓reduceIte, reduceCtorEq, if_true, if_false, ite_true, ite_false, Int.reduceLT, Int.reduceLE, ptr, allocV_zero Try.zero_69, Try.fa_195_0, Try.ld_193, Try.fa_69_0, Try.ld_9, Try.st_69, Try.fa_195_2, Try.ld_3, Try.fa_195_1, Try.ld_23, callV_func Try.enters_23, allocV_zero Try.zero_32, Try.st_32, Try.fa_195_3, Try.ld_4, Try.ld_69, Try.fa_32_0, callV_func Try.enters_120, Try.fa_69_3, callV_func Try.enters_30, Try.fa_69_2, Try.ld_2, callV_func Try.enters_28, alV,  List.headD_cons,  e6,  t7,  Value.cells,  List.size_toArray,  hp7.ld3,  l4,  t8,  l8, rs_ct (show Try.f119.results = #[.cell 4 69,  .tmp 5] from rfl)]
        exact full (by unfold layT; rw [if_pos hev, hAl]; rfl)
      | false =>
        have x0 : ld σ7 σ5.next 0 = some (.string x.1) := v8.ld rfl
        simp (maxSteps := 2000000) only [B0, B1, B2, B3, B4, B5, B6, B7, Gd, extV, Nat.reduceLT, Nat.reduceEqDiff, Nat.reduceBEq, Nat.reduceAdd, Nat.reduceSub, Nat.reduceMul, ↓reduceIte, reduceCtorEq, if_true, if_false, ite_true, ite_false, Int.reduceLT, Int.reduceLE, ptr, allocV_zero Try.zero_69, Try.fa_195_0, Try.ld_193, Try.fa_69_0, Try.ld_9, Try.st_69, Try.fa_195_2, Try.ld_3, Try.fa_195_1, Try.ld_23, callV_func Try.enters_23, allocV_zero Try.zero_32, Try.st_32, Try.fa_195_3, Try.ld_4, Try.ld_69, Try.fa_32_0, callV_func Try.enters_120, Try.fa_69_3, callV_func Try.enters_30, Try.fa_69_2, Try.ld_2, callV_func Try.enters_28, alV,  List.headD_cons,  e6,  t7,  Value.cells,  List.size_toArray,  hp7.ld3,  x0, rs_ct (show Try.f119.results = #[.cell 4 69,  .tmp 5] from rfl)]
        obtain ⟨y, hy1, hy2, hy3⟩ := (alS_mem hks).1 (show x ∈ alS T by rw [hAl]; simp)
        have hyk : y.1 = x.1 := by rw [← hy3]
        have hgy : getE x.1 T = some y := hyk ▸ getE_mem hks.nd hy1
        refine takes_run f hp7 x.1 (e := y) (by rw [hM.get, hgy]; rfl) (by omega) (by omega) fun σ9 hp9 hS9 => ?_
        rw [alS_del hks] at hp9
        have hM9 : MapE (mdel M x.1) (delE x.1 T) := hM.del hp.mp.nodup hks x.1
        have hn9 := hS9.next
        have hd9 : σ.next ∉ m :: Fa := fun q => by simp at q; rcases q with q | q; omega; have := hlow0 _ q; omega
        have hd9' : σ.next + 1 ∉ m :: Fa := fun q => by simp at q; rcases q with q | q; omega; have := hlow0 _ q; omega
        have vb4a := vb4.same hS9 hd9'
        obtain ⟨σ10, t10, vb4, hS10, hn10⟩ := vb4a.store (vs' := encE y) rfl (encEOk.single _)
        have vb3 := (vb3.same hS9 hd9).same hS10 (by simp)
        have hp10 := hp9.same hS10 (by simp; omega) (by simp; omega) (fun b hb q => by have := hlow0 b hb; simp at q; omega)
        have hlay : layT T room false e = (putE e (delE x.1 T), y, 0) := by unfold layT; rw [if_pos hev, hAl]; simp only [hgy, Option.getD_some]; rfl
        have hdl := delE_len (k := x.1) hks
        rw [hgy] at hdl
        simp only [Option.isSome_some, if_true] at hdl
        have hks9 : KS (delE x.1 T) := hks.del
        have hal9 := alS_len hks9
        have hS010 : Same σ σ10 (m :: Fa) := ((hS07.app hS9).app hS10).old fun b hb => by
          simp at hb
          rcases hb with hb | hb | hb
          · exact .inl (by simp [hb])
          · exact .inl (by simp [hb])
          · exact .inr (by omega)
        simp only [encE] at t10
        have fin : ∀ σ' F', TabP σ' p m pa F' (mput (mdel M x.1) e.1 (enV e)) (alS (putE e (delE x.1 T))) room false → MapE (mput (mdel M x.1) e.1 (enV e)) (putE e (delE x.1 T)) → (∀ b ∈ F', b ∈ Fa ∨ σ.next ≤ b) → Same σ σ' (m :: Fa) → Q (.tuple #[.agg #[.string y.1, .int .i64 y.2.1, .int .i64 y.2.2.1, .bool y.2.2.2], .int .i64 0], σ') := fun σ' F' q1 q2 q3 q4 => by
          have := hQ σ' (p :: m :: F')
          rw [hlay] at this
          refine this ⟨⟨m, pa, F', _, q1, q2, rfl⟩, putE_ks hks9, fun z hz => ?_, ?_, hrm⟩ (fun b hb => ?_) (q4.mono fun b hb => by simp at hb ⊢; exact .inr hb)
          · rcases mem_putE.1 hz with rfl | ⟨hz, _⟩
            · exact he
            · exact hok z (mem_delE.1 hz).1
          · have := putE_len (e := e) hks9
            simp only
            split at this <;> omega
          · simp at hb ⊢
            rcases hb with hb | hb | hb
            · exact .inl (.inl hb)
            · exact .inl (.inr (.inl hb))
            · rcases q3 b hb with w | w
              · exact .inl (.inr (.inr w))
              · exact .inr w
        have hSS := hS010
        simp (maxSteps := 2000000) only [B0, B1, B2, B3, B4, B5, B6, B7, Gd, extV, Nat.reduceLT, Nat.reduceEqDiff, Nat.reduceBEq, Nat.reduceAdd, Nat.reduceSub, Nat.reduceMul, ↓reduceIte, reduceCtorEq, if_true, if_false, ite_true, ite_false, Int.reduceLT, Int.reduceLE, ptr, allocV_zero Try.zero_69, Try.fa_195_0, Try.ld_193, Try.fa_69_0, Try.ld_9, Try.st_69, Try.fa_195_2, Try.ld_3, Try.fa_195_1, Try.ld_23, callV_func Try.enters_23, allocV_zero Try.zero_32, Try.st_32, Try.fa_195_3, Try.ld_4, Try.ld_69, Try.fa_32_0, callV_func Try.enters_120, Try.fa_69_3, callV_func Try.enters_30, Try.fa_69_2, Try.ld_2, callV_func Try.enters_28, enV,  t10,  Value.cells,  List.size_toArray, rs_ct (show Try.f119.results = #[.cell 4 69,  .tmp 5] from rfl)]
        obtain ⟨om, tm, hm1, hm2⟩ := lay_end f hp10 hM9 hks9 (by omega) he
        have hSm := Same.set σ10 m om
        have hlow := hp10.al.low
        have hml := hp10.ml
        have hpo := hp10.obj.1
        have b3 : VarAt (σ10.set m om) σ.next (encE e) := vb3.same hSm (by simp; omega)
        have b4 : VarAt (σ10.set m om) (σ.next + 1) (encE y) := vb4.same hSm (by simp; omega)
        have b3l : ldCells σ10 σ.next 0 4 = some (encE e) := vb3.ldCells
        have c30 : ld σ10 σ.next 0 = some (.string e.1) := vb3.ld rfl
        have d30 : ld (σ10.set m om) σ.next 0 = some (.string e.1) := b3.ld rfl
        have d32 : ld (σ10.set m om) σ.next 2 = some (.int .i64 e.2.2.1) := b3.ld rfl
        have d33 : ld (σ10.set m om) σ.next 3 = some (.bool e.2.2.2) := b3.ld rfl
        simp only [encE] at b3l
        have tm' : mapPut Try.prog 193 (.map (some m)) (.string e.1) (.agg #[.string e.1, .int .i64 e.2.1, .int .i64 e.2.2.1, .bool e.2.2.2]) σ10 = some (σ10.set m om) := tm
        cases hst : e.2.2.2 with
        | true =>
          rw [hst] at tm' b3l d33
          simp (maxSteps := 2000000) only [B0, B1, B2, B3, B4, B5, B6, B7, Gd, extV, Nat.reduceLT, Nat.reduceEqDiff, Nat.reduceBEq, Nat.reduceAdd, Nat.reduceSub, Nat.reduceMul, ↓reduceIte, reduceCtorEq, if_true, if_false, ite_true, ite_false, Int.reduceLT, Int.reduceLE, ptr, allocV_zero Try.zero_69, Try.fa_195_0, Try.ld_193, Try.fa_69_0, Try.ld_9, Try.st_69, Try.fa_195_2, Try.ld_3, Try.fa_195_1, Try.ld_23, callV_func Try.enters_23, allocV_zero Try.zero_32, Try.st_32, Try.fa_195_3, Try.ld_4, Try.ld_69, Try.fa_32_0, callV_func Try.enters_120, Try.fa_69_3, callV_func Try.enters_30, Try.fa_69_2, Try.ld_2, callV_func Try.enters_28, hp10.ld0,  c30,  b3l,  tm',  d33,  hm1.ld1,  d30, rs_ct (show Try.f119.results = #[.cell 4 69,  .tmp 5] from rfl)]
          refine drop_run f.toFree3 hm1.al e.1 (by omega) (by omega) fun σ8 h8 hS8 => ?_
          have p8 := hm1.call h8 (fun b hb => .inl hb) hS8
          rw [alS_fix hks9 hst] at p8
          have w4 : VarAt σ8 (σ.next + 1) (encE y) := b4.same hS8 (fun q => by have := hlow0 _ q; omega)
          have w4l : ldCells σ8 (σ.next + 1) 0 4 = some (encE y) := w4.ldCells
          obtain ⟨σ9, t9, w9, hS9, hn9⟩ := w4.store (vs' := encE y) rfl (encEOk.single _)
          have w9l : ldCells σ9 (σ.next + 1) 0 4 = some (encE y) := w9.ldCells
          simp only [encE] at w4l t9 w9l
          simp (maxSteps := 2000000) only [B0, B1, B2, B3, B4, B5, B6, B7, Gd, extV, Nat.reduceLT, Nat.reduceEqDiff, Nat.reduceBEq, Nat.reduceAdd, Nat.reduceSub, Nat.reduceMul, ↓reduceIte, reduceCtorEq, if_true, if_false, ite_true, ite_false, Int.reduceLT, Int.reduceLE, ptr, allocV_zero Try.zero_69, Try.fa_195_0, Try.ld_193, Try.fa_69_0, Try.ld_9, Try.st_69, Try.fa_195_2, Try.ld_3, Try.fa_195_1, Try.ld_23, callV_func Try.enters_23, allocV_zero Try.zero_32, Try.st_32, Try.fa_195_3, Try.ld_4, Try.ld_69, Try.fa_32_0, callV_func Try.enters_120, Try.fa_69_3, callV_func Try.enters_30, Try.fa_69_2, Try.ld_2, callV_func Try.enters_28, w4l,  t9,  w9l,  Value.cells,  List.size_toArray, rs_ct (show Try.f119.results = #[.cell 4 69,  .tmp 5] from rfl)]
          refine fin σ9 Fa (p8.same hS9 (by simp; omega) (by simp; omega) (fun b hb q => by have := hlow0 b hb; simp at q; omega)) hm2 (fun b hb => .inl hb) ?_
          exact (((hSS.app hSm).app hS8).app hS9).old fun b hb => by simp at hb; rcases hb with hb | hb | hb | hb | hb <;> first | (left; simp [hb]; done) | (right; omega)
        | false =>
          rw [hst] at tm' b3l d33
          simp (maxSteps := 2000000) only [B0, B1, B2, B3, B4, B5, B6, B7, Gd, extV, Nat.reduceLT, Nat.reduceEqDiff, Nat.reduceBEq, Nat.reduceAdd, Nat.reduceSub, Nat.reduceMul, ↓reduceIte, reduceCtorEq, if_true, if_false, ite_true, ite_false, Int.reduceLT, Int.reduceLE, ptr, allocV_zero Try.zero_69, Try.fa_195_0, Try.ld_193, Try.fa_69_0, Try.ld_9, Try.st_69, Try.fa_195_2, Try.ld_3, Try.fa_195_1, Try.ld_23, callV_func Try.enters_23, allocV_zero Try.zero_32, Try.st_32, Try.fa_195_3, Try.ld_4, Try.ld_69, Try.fa_32_0, callV_func Try.enters_120, Try.fa_69_3, callV_func Try.enters_30, Try.fa_69_2, Try.ld_2, callV_func Try.enters_28, hp10.ld0,  c30,  b3l,  tm',  d33,  hm1.ld1,  d30,  d32, rs_ct (show Try.f119.results = #[.cell 4 69,  .tmp 5] from rfl)]
          refine set_run f.toFree3 hm1.al e.1 e.2.2.1 (by omega) (by omega) fun σ8 F8 h8 hF8 hS8 => ?_
          rw [if_neg (by exact he)] at h8
          have p8 := hm1.call h8 hF8 hS8
          rw [alS_put hks9 hst] at p8
          have w4 : VarAt σ8 (σ.next + 1) (encE y) := b4.same hS8 (fun q => by have := hlow0 _ q; omega)
          have w4l : ldCells σ8 (σ.next + 1) 0 4 = some (encE y) := w4.ldCells
          obtain ⟨σ9, t9, w9, hS9, hn9⟩ := w4.store (vs' := encE y) rfl (encEOk.single _)
          have w9l : ldCells σ9 (σ.next + 1) 0 4 = some (encE y) := w9.ldCells
          simp only [encE] at w4l t9 w9l
          simp (maxSteps := 2000000) only [B0, B1, B2, B3, B4, B5, B6, B7, Gd, extV, Nat.reduceLT, Nat.reduceEqDiff, Nat.reduceBEq, Nat.reduceAdd, Nat.reduceSub, Nat.reduceMul, ↓reduceIte, reduceCtorEq, if_true, if_false, ite_true, ite_false, Int.reduceLT, Int.reduceLE, ptr, allocV_zero Try.zero_69, Try.fa_195_0, Try.ld_193, Try.fa_69_0, Try.ld_9, Try.st_69, Try.fa_195_2, Try.ld_3, Try.fa_195_1, Try.ld_23, callV_func Try.enters_23, allocV_zero Try.zero_32, Try.st_32, Try.fa_195_3, Try.ld_4, Try.ld_69, Try.fa_32_0, callV_func Try.enters_120, Try.fa_69_3, callV_func Try.enters_30, Try.fa_69_2, Try.ld_2, callV_func Try.enters_28, w4l,  t9,  w9l,  Value.cells,  List.size_toArray, rs_ct (show Try.f119.results = #[.cell 4 69,  .tmp 5] from rfl)]
          refine fin σ9 F8 (p8.same hS9 (by simp; omega) (by simp; omega) (fun b hb q => by
            simp at q
            rcases hF8 b hb with w | w
            · have := hlow0 b w; omega
            · rw [show (σ10.set m om).next = σ10.next from rfl] at w; omega)) hm2 (fun b hb => by rcases hF8 b hb with w | w; exact .inl w; exact .inr (by rw [show (σ10.set m om).next = σ10.next from rfl] at w; omega)) ?_
          exact (((hSS.app hSm).app hS8).app hS9).old fun b hb => by simp at hb; rcases hb with hb | hb | hb | hb | hb <;> first | (left; simp [hb]; done) | (right; omega)
  · have hlay : layT T room ref e = (putE e T, zE, 0) := by unfold layT; rw [if_neg hev]
    have fin : ∀ σ' F', TabP σ' p m pa F' (mput M e.1 (enV e)) (alS (putE e T)) room ref → MapE (mput M e.1 (enV e)) (putE e T) → (∀ b ∈ F', b ∈ Fa ∨ σ.next ≤ b) → Same σ σ' (m :: Fa) → Q (.tuple #[.agg #[.string ⟨#[]⟩, .int .i64 0, .int .i64 0, .bool false], .int .i64 0], σ') := fun σ' F' q1 q2 q3 q4 => by
      have := hQ σ' (p :: m :: F')
      rw [hlay] at this
      refine this ⟨⟨m, pa, F', _, q1, q2, rfl⟩, putE_ks hks, fun z hz => ?_, ?_, hrm⟩ (fun b hb => ?_) (q4.mono fun b hb => by simp at hb ⊢; exact .inr hb)
      · rcases mem_putE.1 hz with rfl | ⟨hz, _⟩
        · exact he
        · exact hok z hz
      · have := putE_len (e := e) hks
        simp only
        cases hq : getE e.1 T with
        | none => rw [hq] at this hev; simp at this hev; omega
        | some w => rw [hq] at this; simp at this; omega
      · simp at hb ⊢
        rcases hb with hb | hb | hb
        · exact .inl (.inl hb)
        · exact .inl (.inr (.inl hb))
        · rcases q3 b hb with w | w
          · exact .inl (.inr (.inr w))
          · exact .inr w
    have hSS : Same σ σ4 (m :: Fa) := hS04.mono nofun
    cases hsn : (getE e.1 T).isSome with
    | true =>
      rw [W_start (m := 81) (keep := [1]) Try.func119 rfl (by kernel_rfl) (by kernel_rfl) (by first | rfl | assumption | exact f.h119) (by rfl)]
      simp (maxSteps := 2000000) only [B0, B1, B2, B3, B4, B5, B6, B7, Gd, extV, Nat.reduceLT, Nat.reduceEqDiff, Nat.reduceBEq, Nat.reduceAdd, Nat.reduceSub, Nat.reduceMul, ↓reduceIte, reduceCtorEq, if_true, if_false, ite_true, ite_false, Int.reduceLT, Int.reduceLE, ptr, allocV_zero Try.zero_69, Try.fa_195_0, Try.ld_193, Try.fa_69_0, Try.ld_9, Try.st_69, Try.fa_195_2, Try.ld_3, Try.fa_195_1, Try.ld_23, callV_func Try.enters_23, allocV_zero Try.zero_32, Try.st_32, Try.fa_195_3, Try.ld_4, Try.ld_69, Try.fa_32_0, callV_func Try.enters_120, Try.fa_69_3, callV_func Try.enters_30, Try.fa_69_2, Try.ld_2, callV_func Try.enters_28, hn1,  enV,  Value.cells,  e1,  e2, rs_ct (show Try.f119.results = #[.cell 4 69,  .tmp 5] from rfl)]
      refine Eq.mpr (W_retold (ps := [(10, 3), (10, 5), (10, 6)]) (by kernel_rfl) (by kernel_rfl) (by simp)) ?_
      simp (maxSteps := 2000000) only [B0, B1, B2, B3, B4, B5, B6, B7, Gd, extV, Nat.reduceLT, Nat.reduceEqDiff, Nat.reduceBEq, Nat.reduceAdd, Nat.reduceSub, Nat.reduceMul, ↓reduceIte, reduceCtorEq, if_true, if_false, ite_true, ite_false, Int.reduceLT, Int.reduceLE, ptr, allocV_zero Try.zero_69, Try.fa_195_0, Try.ld_193, Try.fa_69_0, Try.ld_9, Try.st_69, Try.fa_195_2, Try.ld_3, Try.fa_195_1, Try.ld_23, callV_func Try.enters_23, allocV_zero Try.zero_32, Try.st_32, Try.fa_195_3, Try.ld_4, Try.ld_69, Try.fa_32_0, callV_func Try.enters_120, Try.fa_69_3, callV_func Try.enters_30, Try.fa_69_2, Try.ld_2, callV_func Try.enters_28, hn1,  hp4.ld0,  c04,  hp3.ld0,  c03,  hlk3,  hlk2,  hlk4,  hp2.ld0,  c0,  enV,  Value.cells,  retells_eq,  sameE,  e3,  List.size_toArray,  t4,  hsn, rs_ct (show Try.f119.results = #[.cell 4 69,  .tmp 5] from rfl)]
      obtain ⟨om, tm, hm1, hm2⟩ := lay_end f hp4 hM hks (by omega) he
      have hSm := Same.set σ4 m om
      have hlow := hp4.al.low
      have hml := hp4.ml
      have hpo := hp4.obj.1
      have b3 : VarAt (σ4.set m om) σ.next (encE e) := vb3.same hSm (by simp; omega)
      have b4 : VarAt (σ4.set m om) (σ.next + 1) (encE zE) := vb4.same hSm (by simp; omega)
      have b3l : ldCells σ4 σ.next 0 4 = some (encE e) := vb3.ldCells
      have c30 : ld σ4 σ.next 0 = some (.string e.1) := vb3.ld rfl
      have d30 : ld (σ4.set m om) σ.next 0 = some (.string e.1) := b3.ld rfl
      have d32 : ld (σ4.set m om) σ.next 2 = some (.int .i64 e.2.2.1) := b3.ld rfl
      have d33 : ld (σ4.set m om) σ.next 3 = some (.bool e.2.2.2) := b3.ld rfl
      simp only [encE] at b3l
      have tm' : mapPut Try.prog 193 (.map (some m)) (.string e.1) (.agg #[.string e.1, .int .i64 e.2.1, .int .i64 e.2.2.1, .bool e.2.2.2]) σ4 = some (σ4.set m om) := tm
      cases hst : e.2.2.2 with
      | true =>
        rw [hst] at tm' b3l d33
        simp (maxSteps := 2000000) only [B0, B1, B2, B3, B4, B5, B6, B7, Gd, extV, Nat.reduceLT, Nat.reduceEqDiff, Nat.reduceBEq, Nat.reduceAdd, Nat.reduceSub, Nat.reduceMul, ↓reduceIte, reduceCtorEq, if_true, if_false, ite_true, ite_false, Int.reduceLT, Int.reduceLE, ptr, allocV_zero Try.zero_69, Try.fa_195_0, Try.ld_193, Try.fa_69_0, Try.ld_9, Try.st_69, Try.fa_195_2, Try.ld_3, Try.fa_195_1, Try.ld_23, callV_func Try.enters_23, allocV_zero Try.zero_32, Try.st_32, Try.fa_195_3, Try.ld_4, Try.ld_69, Try.fa_32_0, callV_func Try.enters_120, Try.fa_69_3, callV_func Try.enters_30, Try.fa_69_2, Try.ld_2, callV_func Try.enters_28, hp4.ld0,  c30,  b3l,  tm',  d33,  hm1.ld1,  d30, rs_ct (show Try.f119.results = #[.cell 4 69,  .tmp 5] from rfl)]
        refine drop_run f.toFree3 hm1.al e.1 (by omega) (by omega) fun σ8 h8 hS8 => ?_
        have p8 := hm1.call h8 (fun b hb => .inl hb) hS8
        rw [alS_fix hks hst] at p8
        have w4 : VarAt σ8 (σ.next + 1) (encE zE) := b4.same hS8 (fun q => by have := hlow0 _ q; omega)
        have w4l : ldCells σ8 (σ.next + 1) 0 4 = some (encE zE) := w4.ldCells
        obtain ⟨σ9, t9, w9, hS9, hn9⟩ := w4.store (vs' := encE zE) rfl (encEOk.single _)
        have w9l : ldCells σ9 (σ.next + 1) 0 4 = some (encE zE) := w9.ldCells
        simp only [encE] at w4l t9 w9l
        simp (maxSteps := 2000000) only [B0, B1, B2, B3, B4, B5, B6, B7, Gd, extV, Nat.reduceLT, Nat.reduceEqDiff, Nat.reduceBEq, Nat.reduceAdd, Nat.reduceSub, Nat.reduceMul, ↓reduceIte, reduceCtorEq, if_true, if_false, ite_true, ite_false, Int.reduceLT, Int.reduceLE, ptr, allocV_zero Try.zero_69, Try.fa_195_0, Try.ld_193, Try.fa_69_0, Try.ld_9, Try.st_69, Try.fa_195_2, Try.ld_3, Try.fa_195_1, Try.ld_23, callV_func Try.enters_23, allocV_zero Try.zero_32, Try.st_32, Try.fa_195_3, Try.ld_4, Try.ld_69, Try.fa_32_0, callV_func Try.enters_120, Try.fa_69_3, callV_func Try.enters_30, Try.fa_69_2, Try.ld_2, callV_func Try.enters_28, w4l,  t9,  w9l,  Value.cells,  List.size_toArray, rs_ct (show Try.f119.results = #[.cell 4 69,  .tmp 5] from rfl)]
        refine fin σ9 Fa (p8.same hS9 (by simp; omega) (by simp; omega) (fun b hb q => by have := hlow0 b hb; simp at q; omega)) hm2 (fun b hb => .inl hb) ?_
        exact (((hSS.app hSm).app hS8).app hS9).old fun b hb => by simp at hb; rcases hb with hb | hb | hb | hb | hb <;> first | (left; simp [hb]; done) | (right; omega)
      | false =>
        rw [hst] at tm' b3l d33
        simp (maxSteps := 2000000) only [B0, B1, B2, B3, B4, B5, B6, B7, Gd, extV, Nat.reduceLT, Nat.reduceEqDiff, Nat.reduceBEq, Nat.reduceAdd, Nat.reduceSub, Nat.reduceMul, ↓reduceIte, reduceCtorEq, if_true, if_false, ite_true, ite_false, Int.reduceLT, Int.reduceLE, ptr, allocV_zero Try.zero_69, Try.fa_195_0, Try.ld_193, Try.fa_69_0, Try.ld_9, Try.st_69, Try.fa_195_2, Try.ld_3, Try.fa_195_1, Try.ld_23, callV_func Try.enters_23, allocV_zero Try.zero_32, Try.st_32, Try.fa_195_3, Try.ld_4, Try.ld_69, Try.fa_32_0, callV_func Try.enters_120, Try.fa_69_3, callV_func Try.enters_30, Try.fa_69_2, Try.ld_2, callV_func Try.enters_28, hp4.ld0,  c30,  b3l,  tm',  d33,  hm1.ld1,  d30,  d32, rs_ct (show Try.f119.results = #[.cell 4 69,  .tmp 5] from rfl)]
        refine set_run f.toFree3 hm1.al e.1 e.2.2.1 (by omega) (by omega) fun σ8 F8 h8 hF8 hS8 => ?_
        rw [if_neg (by exact he)] at h8
        have p8 := hm1.call h8 hF8 hS8
        rw [alS_put hks hst] at p8
        have w4 : VarAt σ8 (σ.next + 1) (encE zE) := b4.same hS8 (fun q => by have := hlow0 _ q; omega)
        have w4l : ldCells σ8 (σ.next + 1) 0 4 = some (encE zE) := w4.ldCells
        obtain ⟨σ9, t9, w9, hS9, hn9⟩ := w4.store (vs' := encE zE) rfl (encEOk.single _)
        have w9l : ldCells σ9 (σ.next + 1) 0 4 = some (encE zE) := w9.ldCells
        simp only [encE] at w4l t9 w9l
        simp (maxSteps := 2000000) only [B0, B1, B2, B3, B4, B5, B6, B7, Gd, extV, Nat.reduceLT, Nat.reduceEqDiff, Nat.reduceBEq, Nat.reduceAdd, Nat.reduceSub, Nat.reduceMul, ↓reduceIte, reduceCtorEq, if_true, if_false, ite_true, ite_false, Int.reduceLT, Int.reduceLE, ptr, allocV_zero Try.zero_69, Try.fa_195_0, Try.ld_193, Try.fa_69_0, Try.ld_9, Try.st_69, Try.fa_195_2, Try.ld_3, Try.fa_195_1, Try.ld_23, callV_func Try.enters_23, allocV_zero Try.zero_32, Try.st_32, Try.fa_195_3, Try.ld_4, Try.ld_69, Try.fa_32_0, callV_func Try.enters_120, Try.fa_69_3, callV_func Try.enters_30, Try.fa_69_2, Try.ld_2, callV_func Try.enters_28, w4l,  t9,  w9l,  Value.cells,  List.size_toArray, rs_ct (show Try.f119.results = #[.cell 4 69,  .tmp 5] from rfl)]
        refine fin σ9 F8 (p8.same hS9 (by simp; omega) (by simp; omega) (fun b hb q => by
          simp at q
          rcases hF8 b hb with w | w
          · have := hlow0 b w; omega
          · rw [show (σ4.set m om).next = σ4.next from rfl] at w; omega)) hm2 (fun b hb => by rcases hF8 b hb with w | w; exact .inl w; exact .inr (by rw [show (σ4.set m om).next = σ4.next from rfl] at w; omega)) ?_
        exact (((hSS.app hSm).app hS8).app hS9).old fun b hb => by simp at hb; rcases hb with hb | hb | hb | hb | hb <;> first | (left; simp [hb]; done) | (right; omega)
    | false =>
      have hroom : ((room : Int) ≤ (T.length : Int)) = False := by
        have : (getE e.1 T).isNone = true := by cases hq : getE e.1 T with | none => rfl | some x => rw [hq] at hsn; cases hsn
        simp only [eq_iff_iff, iff_false]
        intro q
        exact hev ⟨this, by omega⟩
      rw [W_start (m := 81) (keep := [1]) Try.func119 rfl (by kernel_rfl) (by kernel_rfl) (by first | rfl | assumption | exact f.h119) (by rfl)]
      simp (maxSteps := 2000000) only [B0, B1, B2, B3, B4, B5, B6, B7, Gd, extV, Nat.reduceLT, Nat.reduceEqDiff, Nat.reduceBEq, Nat.reduceAdd, Nat.reduceSub, Nat.reduceMul, ↓reduceIte, reduceCtorEq, if_true, if_false, ite_true, ite_false, Int.reduceLT, Int.reduceLE, ptr, allocV_zero Try.zero_69, Try.fa_195_0, Try.ld_193, Try.fa_69_0, Try.ld_9, Try.st_69, Try.fa_195_2, Try.ld_3, Try.fa_195_1, Try.ld_23, callV_func Try.enters_23, allocV_zero Try.zero_32, Try.st_32, Try.fa_195_3, Try.ld_4, Try.ld_69, Try.fa_32_0, callV_func Try.enters_120, Try.fa_69_3, callV_func Try.enters_30, Try.fa_69_2, Try.ld_2, callV_func Try.enters_28, hn1,  enV,  Value.cells,  e1,  e2, rs_ct (show Try.f119.results = #[.cell 4 69,  .tmp 5] from rfl)]
      refine Eq.mpr (W_retold (ps := [(10, 3), (10, 5), (10, 6)]) (by kernel_rfl) (by kernel_rfl) (by simp)) ?_
      simp (maxSteps := 2000000) only [B0, B1, B2, B3, B4, B5, B6, B7, Gd, extV, Nat.reduceLT, Nat.reduceEqDiff, Nat.reduceBEq, Nat.reduceAdd, Nat.reduceSub, Nat.reduceMul, ↓reduceIte, reduceCtorEq, if_true, if_false, ite_true, ite_false, Int.reduceLT, Int.reduceLE, ptr, allocV_zero Try.zero_69, Try.fa_195_0, Try.ld_193, Try.fa_69_0, Try.ld_9, Try.st_69, Try.fa_195_2, Try.ld_3, Try.fa_195_1, Try.ld_23, callV_func Try.enters_23, allocV_zero Try.zero_32, Try.st_32, Try.fa_195_3, Try.ld_4, Try.ld_69, Try.fa_32_0, callV_func Try.enters_120, Try.fa_69_3, callV_func Try.enters_30, Try.fa_69_2, Try.ld_2, callV_func Try.enters_28, hn1,  hp4.ld0,  c04,  hp3.ld0,  c03,  hlk3,  hlk2,  hlk4,  hp2.ld0,  c0,  enV,  Value.cells,  retells_eq,  sameE,  e3,  List.size_toArray,  t4,  hsn,  hp4.ld0,  hm4,  hp4.ld2,  hroom, rs_ct (show Try.f119.results = #[.cell 4 69,  .tmp 5] from rfl)]
      obtain ⟨om, tm, hm1, hm2⟩ := lay_end f hp4 hM hks (by omega) he
      have hSm := Same.set σ4 m om
      have hlow := hp4.al.low
      have hml := hp4.ml
      have hpo := hp4.obj.1
      have b3 : VarAt (σ4.set m om) σ.next (encE e) := vb3.same hSm (by simp; omega)
      have b4 : VarAt (σ4.set m om) (σ.next + 1) (encE zE) := vb4.same hSm (by simp; omega)
      have b3l : ldCells σ4 σ.next 0 4 = some (encE e) := vb3.ldCells
      have c30 : ld σ4 σ.next 0 = some (.string e.1) := vb3.ld rfl
      have d30 : ld (σ4.set m om) σ.next 0 = some (.string e.1) := b3.ld rfl
      have d32 : ld (σ4.set m om) σ.next 2 = some (.int .i64 e.2.2.1) := b3.ld rfl
      have d33 : ld (σ4.set m om) σ.next 3 = some (.bool e.2.2.2) := b3.ld rfl
      simp only [encE] at b3l
      have tm' : mapPut Try.prog 193 (.map (some m)) (.string e.1) (.agg #[.string e.1, .int .i64 e.2.1, .int .i64 e.2.2.1, .bool e.2.2.2]) σ4 = some (σ4.set m om) := tm
      cases hst : e.2.2.2 with
      | true =>
        rw [hst] at tm' b3l d33
        simp (maxSteps := 2000000) only [B0, B1, B2, B3, B4, B5, B6, B7, Gd, extV, Nat.reduceLT, Nat.reduceEqDiff, Nat.reduceBEq, Nat.reduceAdd, Nat.reduceSub, Nat.reduceMul, ↓reduceIte, reduceCtorEq, if_true, if_false, ite_true, ite_false, Int.reduceLT, Int.reduceLE, ptr, allocV_zero Try.zero_69, Try.fa_195_0, Try.ld_193, Try.fa_69_0, Try.ld_9, Try.st_69, Try.fa_195_2, Try.ld_3, Try.fa_195_1, Try.ld_23, callV_func Try.enters_23, allocV_zero Try.zero_32, Try.st_32, Try.fa_195_3, Try.ld_4, Try.ld_69, Try.fa_32_0, callV_func Try.enters_120, Try.fa_69_3, callV_func Try.enters_30, Try.fa_69_2, Try.ld_2, callV_func Try.enters_28, hp4.ld0,  c30,  b3l,  tm',  d33,  hm1.ld1,  d30, rs_ct (show Try.f119.results = #[.cell 4 69,  .tmp 5] from rfl)]
        refine drop_run f.toFree3 hm1.al e.1 (by omega) (by omega) fun σ8 h8 hS8 => ?_
        have p8 := hm1.call h8 (fun b hb => .inl hb) hS8
        rw [alS_fix hks hst] at p8
        have w4 : VarAt σ8 (σ.next + 1) (encE zE) := b4.same hS8 (fun q => by have := hlow0 _ q; omega)
        have w4l : ldCells σ8 (σ.next + 1) 0 4 = some (encE zE) := w4.ldCells
        obtain ⟨σ9, t9, w9, hS9, hn9⟩ := w4.store (vs' := encE zE) rfl (encEOk.single _)
        have w9l : ldCells σ9 (σ.next + 1) 0 4 = some (encE zE) := w9.ldCells
        simp only [encE] at w4l t9 w9l
        simp (maxSteps := 2000000) only [B0, B1, B2, B3, B4, B5, B6, B7, Gd, extV, Nat.reduceLT, Nat.reduceEqDiff, Nat.reduceBEq, Nat.reduceAdd, Nat.reduceSub, Nat.reduceMul, ↓reduceIte, reduceCtorEq, if_true, if_false, ite_true, ite_false, Int.reduceLT, Int.reduceLE, ptr, allocV_zero Try.zero_69, Try.fa_195_0, Try.ld_193, Try.fa_69_0, Try.ld_9, Try.st_69, Try.fa_195_2, Try.ld_3, Try.fa_195_1, Try.ld_23, callV_func Try.enters_23, allocV_zero Try.zero_32, Try.st_32, Try.fa_195_3, Try.ld_4, Try.ld_69, Try.fa_32_0, callV_func Try.enters_120, Try.fa_69_3, callV_func Try.enters_30, Try.fa_69_2, Try.ld_2, callV_func Try.enters_28, w4l,  t9,  w9l,  Value.cells,  List.size_toArray, rs_ct (show Try.f119.results = #[.cell 4 69,  .tmp 5] from rfl)]
        refine fin σ9 Fa (p8.same hS9 (by simp; omega) (by simp; omega) (fun b hb q => by have := hlow0 b hb; simp at q; omega)) hm2 (fun b hb => .inl hb) ?_
        exact (((hSS.app hSm).app hS8).app hS9).old fun b hb => by simp at hb; rcases hb with hb | hb | hb | hb | hb <;> first | (left; simp [hb]; done) | (right; omega)
      | false =>
        rw [hst] at tm' b3l d33
        simp (maxSteps := 2000000) only [B0, B1, B2, B3, B4, B5, B6, B7, Gd, extV, Nat.reduceLT, Nat.reduceEqDiff, Nat.reduceBEq, Nat.reduceAdd, Nat.reduceSub, Nat.reduceMul, ↓reduceIte, reduceCtorEq, if_true, if_false, ite_true, ite_false, Int.reduceLT, Int.reduceLE, ptr, allocV_zero Try.zero_69, Try.fa_195_0, Try.ld_193, Try.fa_69_0, Try.ld_9, Try.st_69, Try.fa_195_2, Try.ld_3, Try.fa_195_1, Try.ld_23, callV_func Try.enters_23, allocV_zero Try.zero_32, Try.st_32, Try.fa_195_3, Try.ld_4, Try.ld_69, Try.fa_32_0, callV_func Try.enters_120, Try.fa_69_3, callV_func Try.enters_30, Try.fa_69_2, Try.ld_2, callV_func Try.enters_28, hp4.ld0,  c30,  b3l,  tm',  d33,  hm1.ld1,  d30,  d32, rs_ct (show Try.f119.results = #[.cell 4 69,  .tmp 5] from rfl)]
        refine set_run f.toFree3 hm1.al e.1 e.2.2.1 (by omega) (by omega) fun σ8 F8 h8 hF8 hS8 => ?_
        rw [if_neg (by exact he)] at h8
        have p8 := hm1.call h8 hF8 hS8
        rw [alS_put hks hst] at p8
        have w4 : VarAt σ8 (σ.next + 1) (encE zE) := b4.same hS8 (fun q => by have := hlow0 _ q; omega)
        have w4l : ldCells σ8 (σ.next + 1) 0 4 = some (encE zE) := w4.ldCells
        obtain ⟨σ9, t9, w9, hS9, hn9⟩ := w4.store (vs' := encE zE) rfl (encEOk.single _)
        have w9l : ldCells σ9 (σ.next + 1) 0 4 = some (encE zE) := w9.ldCells
        simp only [encE] at w4l t9 w9l
        simp (maxSteps := 2000000) only [B0, B1, B2, B3, B4, B5, B6, B7, Gd, extV, Nat.reduceLT, Nat.reduceEqDiff, Nat.reduceBEq, Nat.reduceAdd, Nat.reduceSub, Nat.reduceMul, ↓reduceIte, reduceCtorEq, if_true, if_false, ite_true, ite_false, Int.reduceLT, Int.reduceLE, ptr, allocV_zero Try.zero_69, Try.fa_195_0, Try.ld_193, Try.fa_69_0, Try.ld_9, Try.st_69, Try.fa_195_2, Try.ld_3, Try.fa_195_1, Try.ld_23, callV_func Try.enters_23, allocV_zero Try.zero_32, Try.st_32, Try.fa_195_3, Try.ld_4, Try.ld_69, Try.fa_32_0, callV_func Try.enters_120, Try.fa_69_3, callV_func Try.enters_30, Try.fa_69_2, Try.ld_2, callV_func Try.enters_28, w4l,  t9,  w9l,  Value.cells,  List.size_toArray, rs_ct (show Try.f119.results = #[.cell 4 69,  .tmp 5] from rfl)]
        refine fin σ9 F8 (p8.same hS9 (by simp; omega) (by simp; omega) (fun b hb q => by
          simp at q
          rcases hF8 b hb with w | w
          · have := hlow0 b w; omega
          · rw [show (σ4.set m om).next = σ4.next from rfl] at w; omega)) hm2 (fun b hb => by rcases hF8 b hb with w | w; exact .inl w; exact .inr (by rw [show (σ4.set m om).next = σ4.next from rfl] at w; omega)) ?_
        exact (((hSS.app hSm).app hS8).app hS9).old fun b hb => by simp at hb; rcases hb with hb | hb | hb | hb | hb <;> first | (left; simp [hb]; done) | (right; omega)
end Go.Proofs.Ytongccpmdndcgaa.Tab
end
/- Tables: New, Put, Fix, Touch, Get, Drop. -/
section
set_option linter.all false
namespace Go.Proofs.Ytongccpmdndcgaa.Tab
open Go Go.AE Go.Proofs.Ytongccpmdndcgaa.Alm
set_option maxRecDepth 100000
set_option maxHeartbeats 1000000
attribute [local irreducible] Go.AE.Tr.put Go.AE.Tr.get
variable {gs : List Nat} {orc : Orc} {n : Nat} {σ : AHeap} {Q : Value × AHeap → Prop}
variable {p room : Nat} {F : List Nat} {T : List E} {ref : Bool}

def putT (T : List E) (room : Nat) (ref : Bool) (k : ByteArray) (v t : Int) : List E × E × Int :=
  if bad k t then (T, zE, 1)
  else if ((getE k T).map (·.2.2.2)).getD false then (T, zE, 9)
  else layT T room ref (k, v, t, false)
def fixT (T : List E) (room : Nat) (ref : Bool) (k : ByteArray) (v : Int) : List E × E × Int :=
  if bad k 0 then (T, zE, 1) else layT T room ref (k, v, 0, true)
def dropT (T : List E) (k : ByteArray) : List E × Int := if (getE k T).isSome then (delE k T, 0) else (T, 6)
theorem map_zero {e : Option E} : ∃ g : E, (e.map enV).getD (.agg #[.string ⟨#[]⟩, .int .i64 0, .int .i64 0, .bool false]) = enV g ∧ e.getD zE = g := by
  cases e with
  | none => exact ⟨zE, rfl, rfl⟩
  | some x => exact ⟨x, rfl, rfl⟩
theorem bld69 {a : ByteArray} {b c : Int} {d : Bool} : build' Try.prog 69 [(0, .string a), (1, .int .i64 b), (2, .int .i64 c), (3, .bool d)] = some (.agg #[.string a, .int .i64 b, .int .i64 c, .bool d]) := by kernel_rfl
theorem bld69z : build' Try.prog 69 [] = some (.agg #[.string ⟨#[]⟩, .int .i64 0, .int .i64 0, .bool false]) := by kernel_rfl
theorem fst69 {a b c d : Value} : (#[a, b, c, d] : Array Value)[3]? = some d := rfl
theorem put_run (f : FreeT orc) (h : TAt σ p F T room ref) (k : ByteArray) (v t : Int) (hn : 1024 < n)
    (hQ : ∀ σ' F', TAt σ' p F' (putT T room ref k v t).1 room ref → (∀ b ∈ F', b ∈ F ∨ σ.next ≤ b) → Same σ σ' F → Q (.tuple #[enV (putT T room ref k v t).2.1, .int .i64 (putT T room ref k v t).2.2], σ')) :
    W (acall Try.prog gs orc (n + 13) 39 [pt p, .string k, .int .i64 v, .int .i64 t] σ) Q := by
  obtain ⟨σ1, e1, hS1, v1, hn1⟩ := oneVar σ 69 (encE zE) false
  have h1 := h.same hS1 nofun
  obtain ⟨m, pa, Fa, M, hp, hM, rfl⟩ := h1.ex
  have l1 : ldCells σ1 σ.next 0 4 = some (encE zE) := v1.ldCells
  obtain ⟨σ2, t2, v2, hS2, hn2⟩ := v1.store (vs' := encE zE) rfl (encEOk.single _)
  have l2 : ldCells σ2 σ.next 0 4 = some (encE zE) := v2.ldCells
  have hlo := h.low
  have h2 := h1.same hS2 (fun b hb q => by have := hlo b hb; simp at q; omega)
  have hS02 : Same σ σ2 (p :: m :: Fa) := (hS1.app hS2).old fun b hb => by simp at hb; exact .inr (by omega)
  simp only [encE] at e1 l1 t2 l2
  rw [W_start (m := 35) (keep := []) Try.func39 rfl (by kernel_rfl) (by kernel_rfl) (by first | rfl | assumption | exact f.h39) (by rfl)]
  by_cases hb : bad k t
  · have hq := hQ σ2 (p :: m :: Fa)
    have e : putT T room ref k v t = (T, zE, 1) := by unfold putT; rw [if_pos hb]
    rw [e] at hq
    simp (maxSteps := 2000000) only [B0, B1, B2, B3, B4, B5, B6, B7, Gd, extV, Nat.reduceLT, Nat.reduceEqDiff, Nat.reduceBEq, Nat.reduceAdd, Nat.reduceSub, Nat.reduceMul, ↓reduceIte, reduceCtorEq, if_true, if_false, ite_true, ite_false, Int.reduceLT, Int.reduceLE, ptr, allocV_zero Try.zero_69, callV_func Try.enters_118, Try.st_69, Try.fa_195_0, Try.ld_193, Try.fv_69_3, callV_func Try.enters_119, Try.ld_69, Value.cells,  e1,  asks_run f hp,  hb,  bld69z,  t2,  l2,  List.size_toArray,  Int.reduceEq, rs_ct (show Try.f39.results = #[.cell 8 69,  .tmp 9] from rfl)]
    exact hq h2 (fun b hb => .inl hb) hS02
  · have hlk := lookup_spec Try.underlying193 Try.underlying9 Try.zero_69 hp.mp k false
    rw [hM.get] at hlk
    obtain ⟨g, hg1, hg2⟩ := map_zero (e := getE k T)
    rw [hg1] at hlk
    simp only [Bool.false_eq_true, if_false, enV] at hlk
    have hst : ((getE k T).map (·.2.2.2)).getD false = g.2.2.2 := by rw [← hg2]; cases getE k T <;> rfl
    cases hs : g.2.2.2 with
    | true =>
      have hq := hQ σ2 (p :: m :: Fa)
      have e : putT T room ref k v t = (T, zE, 9) := by unfold putT; rw [if_neg hb, hst, hs]; rfl
      rw [e] at hq
      rw [hs] at hlk
      simp (maxSteps := 2000000) only [B0, B1, B2, B3, B4, B5, B6, B7, Gd, extV, Nat.reduceLT, Nat.reduceEqDiff, Nat.reduceBEq, Nat.reduceAdd, Nat.reduceSub, Nat.reduceMul, ↓reduceIte, reduceCtorEq, if_true, if_false, ite_true, ite_false, Int.reduceLT, Int.reduceLE, ptr, allocV_zero Try.zero_69, callV_func Try.enters_118, Try.st_69, Try.fa_195_0, Try.ld_193, Try.fv_69_3, callV_func Try.enters_119, Try.ld_69, Value.cells,  e1,  asks_run f hp,  hb,  bld69z,  t2,  l2,  List.size_toArray,  Int.reduceEq,  hp.ld0,  hlk,  fst69, rs_ct (show Try.f39.results = #[.cell 8 69,  .tmp 9] from rfl)]
      exact hq h2 (fun b hb => .inl hb) hS02
    | false =>
      have e : putT T room ref k v t = layT T room ref (k, v, t, false) := by unfold putT; rw [if_neg hb, hst, hs]; rfl
      rw [hs] at hlk
      simp (maxSteps := 2000000) only [B0, B1, B2, B3, B4, B5, B6, B7, Gd, extV, Nat.reduceLT, Nat.reduceEqDiff, Nat.reduceBEq, Nat.reduceAdd, Nat.reduceSub, Nat.reduceMul, ↓reduceIte, reduceCtorEq, if_true, if_false, ite_true, ite_false, Int.reduceLT, Int.reduceLE, ptr, allocV_zero Try.zero_69, callV_func Try.enters_118, Try.st_69, Try.fa_195_0, Try.ld_193, Try.fv_69_3, callV_func Try.enters_119, Try.ld_69, Value.cells,  e1,  asks_run f hp,  hb,  bld69,  List.size_toArray,  Int.reduceEq,  hp.ld0,  hlk,  fst69, rs_ct (show Try.f39.results = #[.cell 8 69,  .tmp 9] from rfl)]
      refine lay_run f h1 (e := (k, v, t, false)) hb hn fun σ3 F3 h3 hF3 hS3 => ?_
      rw [← e] at h3 ⊢
      have hq := hQ
      generalize putT T room ref k v t = r at h3 hq
      obtain ⟨T', y, c⟩ := r
      have v3 := v1.same hS3 (fun q => by have := hlo _ q; omega)
      obtain ⟨σ4, t4, v4, hS4, hn4⟩ := v3.store (vs' := encE y) rfl (encEOk.single _)
      have l4 : ldCells σ4 σ.next 0 4 = some (encE y) := v4.ldCells
      simp only [encE] at t4 l4
      simp (maxSteps := 2000000) only [B0, B1, B2, B3, B4, B5, B6, B7, Gd, extV, Nat.reduceLT, Nat.reduceEqDiff, Nat.reduceBEq, Nat.reduceAdd, Nat.reduceSub, Nat.reduceMul, ↓reduceIte, reduceCtorEq, if_true, if_false, ite_true, ite_false, Int.reduceLT, Int.reduceLE, ptr, allocV_zero Try.zero_69, callV_func Try.enters_118, Try.st_69, Try.fa_195_0, Try.ld_193, Try.fv_69_3, callV_func Try.enters_119, Try.ld_69, enV,  Value.cells,  List.size_toArray,  t4,  l4, rs_ct (show Try.f39.results = #[.cell 8 69,  .tmp 9] from rfl)]
      refine hq σ4 F3 (h3.same hS4 fun b hb q => ?_) (fun b hb => ?_) ?_
      · simp at q
        rcases hF3 b hb with w | w
        · have := hlo b w; omega
        · omega
      · rcases hF3 b hb with w | w
        · exact .inl w
        · exact .inr (by omega)
      · exact (((hS1.app hS3).app hS4)).old fun b hb => by simp only [List.nil_append, List.mem_append, List.mem_singleton] at hb; rcases hb with hb | hb; exact .inl hb; exact .inr (by omega)
theorem fix_run (f : FreeT orc) (h : TAt σ p F T room ref) (k : ByteArray) (v : Int) (hn : 1024 < n)
    (hQ : ∀ σ' F', TAt σ' p F' (fixT T room ref k v).1 room ref → (∀ b ∈ F', b ∈ F ∨ σ.next ≤ b) → Same σ σ' F → Q (.tuple #[enV (fixT T room ref k v).2.1, .int .i64 (fixT T room ref k v).2.2], σ')) :
    W (acall Try.prog gs orc (n + 13) 40 [pt p, .string k, .int .i64 v] σ) Q := by
  obtain ⟨σ1, e1, hS1, v1, hn1⟩ := oneVar σ 69 (encE zE) false
  have h1 := h.same hS1 nofun
  obtain ⟨m, pa, Fa, M, hp, hM, rfl⟩ := h1.ex
  have l1 : ldCells σ1 σ.next 0 4 = some (encE zE) := v1.ldCells
  obtain ⟨σ2, t2, v2, hS2, hn2⟩ := v1.store (vs' := encE zE) rfl (encEOk.single _)
  have l2 : ldCells σ2 σ.next 0 4 = some (encE zE) := v2.ldCells
  have hlo := h.low
  have h2 := h1.same hS2 (fun b hb q => by have := hlo b hb; simp at q; omega)
  have hS02 : Same σ σ2 (p :: m :: Fa) := (hS1.app hS2).old fun b hb => by simp at hb; exact .inr (by omega)
  simp only [encE] at e1 l1 t2 l2
  rw [W_start (m := 23) (keep := []) Try.func40 rfl (by kernel_rfl) (by kernel_rfl) (by first | rfl | assumption | exact f.h40) (by rfl)]
  by_cases hb : bad k 0
  · have hq := hQ σ2 (p :: m :: Fa)
    have e : fixT T room ref k v = (T, zE, 1) := by unfold fixT; rw [if_pos hb]
    rw [e] at hq
    simp (maxSteps := 2000000) only [B0, B1, B2, B3, B4, B5, B6, B7, Gd, extV, Nat.reduceLT, Nat.reduceEqDiff, Nat.reduceBEq, Nat.reduceAdd, Nat.reduceSub, Nat.reduceMul, ↓reduceIte, reduceCtorEq, if_true, if_false, ite_true, ite_false, Int.reduceLT, Int.reduceLE, ptr, allocV_zero Try.zero_69, callV_func Try.enters_118, Try.st_69, callV_func Try.enters_119, Try.ld_69, Value.cells,  e1,  asks_run f hp,  hb,  bld69z,  t2,  l2,  List.size_toArray,  Int.reduceEq, rs_ct (show Try.f40.results = #[.cell 6 69,  .tmp 7] from rfl)]
    exact hq h2 (fun b hb => .inl hb) hS02
  · have e : fixT T room ref k v = layT T room ref (k, v, 0, true) := by unfold fixT; rw [if_neg hb]
    simp (maxSteps := 2000000) only [B0, B1, B2, B3, B4, B5, B6, B7, Gd, extV, Nat.reduceLT, Nat.reduceEqDiff, Nat.reduceBEq, Nat.reduceAdd, Nat.reduceSub, Nat.reduceMul, ↓reduceIte, reduceCtorEq, if_true, if_false, ite_true, ite_false, Int.reduceLT, Int.reduceLE, ptr, allocV_zero Try.zero_69, callV_func Try.enters_118, Try.st_69, callV_func Try.enters_119, Try.ld_69, Value.cells,  e1,  asks_run f hp,  hb,  bld69,  List.size_toArray,  Int.reduceEq, rs_ct (show Try.f40.results = #[.cell 6 69,  .tmp 7] from rfl)]
    refine lay_run f h1 (e := (k, v, 0, true)) hb hn fun σ3 F3 h3 hF3 hS3 => ?_
    rw [← e] at h3 ⊢
    have hq := hQ
    generalize fixT T room ref k v = r at h3 hq
    obtain ⟨T', y, c⟩ := r
    have v3 := v1.same hS3 (fun q => by have := hlo _ q; omega)
    obtain ⟨σ4, t4, v4, hS4, hn4⟩ := v3.store (vs' := encE y) rfl (encEOk.single _)
    have l4 : ldCells σ4 σ.next 0 4 = some (encE y) := v4.ldCells
    simp only [encE] at t4 l4
    simp (maxSteps := 2000000) only [B0, B1, B2, B3, B4, B5, B6, B7, Gd, extV, Nat.reduceLT, Nat.reduceEqDiff, Nat.reduceBEq, Nat.reduceAdd, Nat.reduceSub, Nat.reduceMul, ↓reduceIte, reduceCtorEq, if_true, if_false, ite_true, ite_false, Int.reduceLT, Int.reduceLE, ptr, allocV_zero Try.zero_69, callV_func Try.enters_118, Try.st_69, callV_func Try.enters_119, Try.ld_69, enV,  Value.cells,  List.size_toArray,  t4,  l4, rs_ct (show Try.f40.results = #[.cell 6 69,  .tmp 7] from rfl)]
    refine hq σ4 F3 (h3.same hS4 fun b hb q => ?_) (fun b hb => ?_) ?_
    · simp at q
      rcases hF3 b hb with w | w
      · have := hlo b w; omega
      · omega
    · rcases hF3 b hb with w | w
      · exact .inl w
      · exact .inr (by omega)
    · exact (((hS1.app hS3).app hS4)).old fun b hb => by simp only [List.nil_append, List.mem_append, List.mem_singleton] at hb; rcases hb with hb | hb; exact .inl hb; exact .inr (by omega)
theorem get_run (f : FreeT orc) (h : TAt σ p F T room ref) (k : ByteArray)
    (hQ : ∀ σ', Same σ σ' [] → Q (.tuple #[enV ((getE k T).getD zE), .bool (getE k T).isSome], σ')) :
    W (acall Try.prog gs orc (n + 2) 38 [pt p, .string k] σ) Q := by
  obtain ⟨m, pa, Fa, M, hp, hM, rfl⟩ := h.ex
  obtain ⟨σ1, e1, hS1, v1, hn1⟩ := oneVar σ 69 (encE zE) false
  have hp1 := hp.same0 hS1
  have hlk := lookup_spec Try.underlying193 Try.underlying9 Try.zero_69 hp1.mp k true
  rw [hM.get] at hlk
  obtain ⟨g, hg1, hg2⟩ := map_zero (e := getE k T)
  rw [hg1, Option.isSome_map] at hlk
  rw [hg2] at hQ
  simp only [if_true, enV] at hlk
  obtain ⟨σ2, σ3, e2, t3, hS3, v3, hn3⟩ := newVar σ1 69 (encE zE) (encE g) rfl (encEOk.single _)
  have l3 : ldCells σ3 σ1.next 0 4 = some (encE g) := v3.ldCells
  obtain ⟨σ4, t4, v4, hS4, hn4⟩ := (v1.same hS3 nofun).store (vs' := encE g) rfl (encEOk.single _)
  have l4 : ldCells σ4 σ.next 0 4 = some (encE g) := v4.ldCells
  simp only [encE] at e1 e2 t3 l3 t4 l4
  rw [W_start (m := 22) (keep := []) Try.func38 rfl (by kernel_rfl) (by kernel_rfl) (by first | rfl | assumption | exact f.h38) (by rfl)]
  simp (maxSteps := 2000000) only [B0, B1, B2, B3, B4, B5, B6, B7, Gd, extV, Nat.reduceLT, Nat.reduceEqDiff, Nat.reduceBEq, Nat.reduceAdd, Nat.reduceSub, Nat.reduceMul, ↓reduceIte, reduceCtorEq, if_true, if_false, ite_true, ite_false, Int.reduceLT, Int.reduceLE, ptr, allocV_zero Try.zero_69, callV_func Try.enters_115, Try.st_69, Try.fa_195_0, Try.ld_193, Try.ld_69, Value.cells,  e1,  tnone_run f hp1,  hp1.ld0,  hlk,  e2,  t3,  l3,  t4,  l4,  List.size_toArray, rs_ct (show Try.f38.results = #[.cell 4 69,  .tmp 5] from rfl)]
  exact hQ σ4 (((hS1.app hS3).app hS4).old fun b hb => by simp at hb; exact .inr (by omega))
theorem drop_t (f : FreeT orc) (h : TAt σ p F T room ref) (k : ByteArray) (hn : 1024 < n)
    (hQ : ∀ σ', TAt σ' p F (dropT T k).1 room ref → Same σ σ' F → Q (.int .i64 (dropT T k).2, σ')) :
    W (acall Try.prog gs orc (n + 12) 42 [pt p, .string k] σ) Q := by
  have hlo := h.low
  have hal := h.al_len
  obtain ⟨⟨m, pa, Fa, M, hp, hM, rfl⟩, hks, hok, hlen, hrm⟩ := h
  have hlk := lookup_spec Try.underlying193 Try.underlying9 Try.zero_69 hp.mp k true
  rw [hM.get] at hlk
  obtain ⟨g, hg1, hg2⟩ := map_zero (e := getE k T)
  rw [hg1, Option.isSome_map] at hlk
  simp only [if_true, enV] at hlk
  obtain ⟨σ2, σ3, e2, t3, hS3, v3, hn3⟩ := newVar σ 69 (encE zE) (encE g) rfl (encEOk.single _)
  simp only [encE] at e2 t3
  have hp3 := hp.same0 hS3
  rw [W_start (m := 23) (keep := []) Try.func42 rfl (by kernel_rfl) (by kernel_rfl) (by first | rfl | assumption | exact f.h42) (by rfl)]
  cases hs : (getE k T).isSome with
  | false =>
    have hq := hQ σ3
    have e : dropT T k = (T, 6) := by unfold dropT; rw [hs]; rfl
    rw [e] at hq
    simp (maxSteps := 2000000) only [B0, B1, B2, B3, B4, B5, B6, B7, Gd, extV, Nat.reduceLT, Nat.reduceEqDiff, Nat.reduceBEq, Nat.reduceAdd, Nat.reduceSub, Nat.reduceMul, ↓reduceIte, reduceCtorEq, if_true, if_false, ite_true, ite_false, Int.reduceLT, Int.reduceLE, ptr, callV_func Try.enters_115, Try.fa_195_0, Try.ld_193, allocV_zero Try.zero_69, Try.st_69, callV_func Try.enters_120, Value.cells,  tnone_run f hp,  hp.ld0,  hlk,  hs,  e2,  t3,  List.size_toArray, rs_tmp (show Try.f42.results = #[.tmp 4] from rfl)]
    exact hq ⟨⟨m, pa, Fa, M, hp3, hM, rfl⟩, hks, hok, hlen, hrm⟩ (hS3.mono nofun)
  | true =>
    have e : dropT T k = (delE k T, 0) := by unfold dropT; rw [hs]; rfl
    rw [e] at hQ
    simp (maxSteps := 2000000) only [B0, B1, B2, B3, B4, B5, B6, B7, Gd, extV, Nat.reduceLT, Nat.reduceEqDiff, Nat.reduceBEq, Nat.reduceAdd, Nat.reduceSub, Nat.reduceMul, ↓reduceIte, reduceCtorEq, if_true, if_false, ite_true, ite_false, Int.reduceLT, Int.reduceLE, ptr, callV_func Try.enters_115, Try.fa_195_0, Try.ld_193, allocV_zero Try.zero_69, Try.st_69, callV_func Try.enters_120, Value.cells,  tnone_run f hp,  hp.ld0,  hlk,  hs,  e2,  t3,  List.size_toArray, rs_tmp (show Try.f42.results = #[.tmp 4] from rfl)]
    obtain ⟨x, hx⟩ := Option.isSome_iff_exists.1 hs
    refine takes_run f hp3 k (e := x) (by rw [hM.get, hx]; rfl) (by omega) (by omega) fun σ4 hp4 hS4 => ?_
    rw [alS_del hks] at hp4
    simp (maxSteps := 2000000) only [B0, B1, B2, B3, B4, B5, B6, B7, Gd, extV, Nat.reduceLT, Nat.reduceEqDiff, Nat.reduceBEq, Nat.reduceAdd, Nat.reduceSub, Nat.reduceMul, ↓reduceIte, reduceCtorEq, if_true, if_false, ite_true, ite_false, Int.reduceLT, Int.reduceLE, ptr, callV_func Try.enters_115, Try.fa_195_0, Try.ld_193, allocV_zero Try.zero_69, Try.st_69, callV_func Try.enters_120, rs_tmp (show Try.f42.results = #[.tmp 4] from rfl)]
    have hl := delE_len (k := k) hks
    exact hQ σ4 ⟨⟨m, pa, Fa, _, hp4, hM.del hp.mp.nodup hks k, rfl⟩, hks.del, fun z hz => hok z (mem_delE.1 hz).1, by simp only; omega, hrm⟩ ((hS3.app hS4).old fun b hb => by simp at hb ⊢; left; right; exact hb)
end Go.Proofs.Ytongccpmdndcgaa.Tab
end
/- Tables: New, Touch, Due. -/
section
set_option linter.all false
namespace Go.Proofs.Ytongccpmdndcgaa.Tab
open Go Go.AE Go.Proofs.Ytongccpmdndcgaa.Alm
set_option maxRecDepth 100000
set_option maxHeartbeats 1000000
attribute [local irreducible] Go.AE.Tr.put Go.AE.Tr.get
variable {gs : List Nat} {orc : Orc} {n : Nat} {σ : AHeap} {Q : Value × AHeap → Prop}
variable {p room : Nat} {F : List Nat} {T : List E} {ref : Bool}

theorem bld195 {m q : Nat} {r : Int} {b : Bool} : build' Try.prog 195 [(0, .map (some m)), (1, pt q), (2, .int .i64 r), (3, .bool b)] = some (.agg #[.map (some m), pt q, .int .i64 r, .bool b]) := by kernel_rfl
theorem tnew_run (f : FreeT orc) (hr : room ≤ 1024)
    (hQ : ∀ σ' p F, TAt σ' p F [] room ref → (∀ b ∈ F, σ.next ≤ b) → Same σ σ' [] → Q (.tuple #[pt p, .int .i64 0], σ')) :
    W (acall Try.prog gs orc (n + 2) 36 [.int .i64 (room : Int), .bool ref] σ) Q := by
  have h1 : ((room : Int) < 0) = False := by simp
  have h2 : ((1024 : Int) < (room : Int)) = False := by simp; omega
  obtain ⟨σ1, e1⟩ : ∃ σ1, (σ.new (.map [] 0 false)).2 = σ1 := ⟨_, rfl⟩
  have hS1 : Same σ σ1 [] := e1 ▸ Same.new _ _
  have hm1 : MapAt σ1 σ.next [] := e1 ▸ MapAt.nil σ
  have hn1 : σ1.next = σ.next + 1 := e1 ▸ rfl
  rw [W_start (m := 18) (keep := []) Try.func36 rfl (by kernel_rfl) (by kernel_rfl) (by first | rfl | assumption | exact f.h36) (by rfl)]
  simp (maxSteps := 2000000) only [B0, B1, B2, B3, B4, B5, B6, B7, Gd, extV, Nat.reduceLT, Nat.reduceEqDiff, Nat.reduceBEq, Nat.reduceAdd, Nat.reduceSub, Nat.reduceMul, ↓reduceIte, reduceCtorEq, if_true, if_false, ite_true, ite_false, Int.reduceLT, Int.reduceLE, ptr, callV_func Try.enters_27, h1,  h2,  e1, rs_two (show Try.f36.results = #[.tmp 4,  .tmp 5] from rfl)]
  refine new_run f.toFree3 fun σ2 pa Fa h2 hF2 hS2 => ?_
  have hn2 := hS2.next
  obtain ⟨σ3, e3, hS3, v3, hn3⟩ := oneVar σ2 195 [.map (some σ.next), pt pa, .int .i64 (room : Int), .bool ref] false
  simp (maxSteps := 2000000) only [B0, B1, B2, B3, B4, B5, B6, B7, Gd, extV, Nat.reduceLT, Nat.reduceEqDiff, Nat.reduceBEq, Nat.reduceAdd, Nat.reduceSub, Nat.reduceMul, ↓reduceIte, reduceCtorEq, if_true, if_false, ite_true, ite_false, Int.reduceLT, Int.reduceLE, ptr, callV_func Try.enters_27, bld195,  Value.cells,  e3, rs_two (show Try.f36.results = #[.tmp 4,  .tmp 5] from rfl)]
  have hlo := h2.low
  refine hQ σ3 σ2.next (σ2.next :: σ.next :: Fa) ⟨⟨σ.next, pa, Fa, [], ⟨v3, (hm1.of_get (hS2.get _ (by omega) nofun)).of_get (hS3.get _ (by omega) nofun), h2.same hS3 nofun, by omega, by omega, fun q => by have := hlo _ q; omega, fun q => by have := hF2 _ q; omega⟩, MapE.nil, rfl⟩, .nil, nofun, by simp, hr⟩ (fun b hb => ?_) ((hS1.trans hS2 nofun).trans hS3 nofun)
  simp at hb
  rcases hb with rfl | rfl | hb
  · omega
  · omega
  · have := hF2 b hb; omega
theorem due_left (t : Int) (L : List Al) : Alm.due t L ++ left t L = L := List.takeWhile_append_dropWhile
/-- What is due, and what stays. -/
def dueT (T : List E) (now : Int) : List E := (Alm.due now (alS T)).map fun x => (getE x.1 T).getD zE
def restT (T : List E) (now : Int) : List E := T.filter fun e => e.2.2.2 || decide (now < e.2.2.1)
theorem rest_ks (h : KS T) (now : Int) : KS (restT T now) := h.sublist List.filter_sublist
theorem mem_rest {now : Int} {e : E} : e ∈ restT T now ↔ e ∈ T ∧ (e.2.2.2 = true ∨ now < e.2.2.1) := by simp [restT]
theorem mem_left {now : Int} : ∀ {L : List Al}, L.Pairwise lt → ∀ {x : Al}, x ∈ left now L ↔ x ∈ L ∧ now < x.2
  | [], _, x => by simp [left]
  | y :: l, h, x => by
    unfold left
    rw [List.dropWhile_cons]
    have h1 := List.pairwise_cons.1 h
    split
    · rename_i q
      simp at q
      rw [show l.dropWhile (fun x => decide (x.2 ≤ now)) = left now l from rfl, mem_left h1.2, List.mem_cons]
      constructor
      · rintro ⟨a, b⟩; exact ⟨.inr a, b⟩
      · rintro ⟨a | a, b⟩
        · subst a; omega
        · exact ⟨a, b⟩
    · rename_i q
      simp at q
      constructor
      · intro hx
        refine ⟨hx, ?_⟩
        rcases List.mem_cons.1 hx with rfl | hx
        · exact q
        · have := h1.1 x hx
          rw [lt_iff] at this
          rcases this with w | ⟨w, _⟩ <;> omega
      · exact fun hx => hx.1
theorem alS_rest (h : KS T) (now : Int) : left now (alS T) = alS (restT T now) := by
  refine alS_eq (rest_ks h now) (.of (rest_ks h now) ?_ ((alS_of h).srt.sublist (List.dropWhile_sublist _)) fun x => ?_)
  · have := (alS_of h).kd h
    unfold KD at *
    exact List.Nodup.sublist ((List.dropWhile_sublist _).map _) this
  · rw [mem_left (alS_of h).srt, alS_mem h, mem_alsE]
    constructor
    · rintro ⟨⟨e, h1, h2, rfl⟩, h3⟩; exact ⟨e, mem_rest.2 ⟨h1, .inr h3⟩, h2, rfl⟩
    · rintro ⟨e, h1, h2, rfl⟩
      obtain ⟨h1, h3⟩ := mem_rest.1 h1
      refine ⟨⟨e, h1, h2, rfl⟩, ?_⟩
      rcases h3 with h3 | h3
      · rw [h2] at h3; cases h3
      · exact h3
/-- The table less the keys of a row. -/
def lessT (T : List E) (D : List Al) : List E := T.filter fun e => !(D.any fun x => decide (x.1 = e.1))
theorem less_nil : lessT T [] = T := List.filter_eq_self.2 (by simp)
theorem less_ks (h : KS T) (D : List Al) : KS (lessT T D) := h.sublist List.filter_sublist
theorem mem_less {D : List Al} {e : E} : e ∈ lessT T D ↔ e ∈ T ∧ ∀ x ∈ D, x.1 ≠ e.1 := by
  unfold lessT
  simp only [List.mem_filter, Bool.not_eq_true', List.any_eq_false, decide_eq_true_eq]
theorem less_del {D : List Al} {x : Al} : delE x.1 (lessT T D) = lessT T (D ++ [x]) := by
  unfold delE lessT
  rw [List.filter_filter]
  refine List.filter_congr fun e _ => ?_
  simp only [List.any_append, List.any_cons, List.any_nil, Bool.or_false]
  by_cases q : e.1 = x.1
  · simp [q]
  · have q' : ¬ x.1 = e.1 := fun w => q w.symm
    simp [q, q']
theorem less_get (h : KS T) {D : List Al} {k : ByteArray} (hk : ∀ x ∈ D, x.1 ≠ k) : getE k (lessT T D) = getE k T := by
  refine opt_ext fun e => ?_
  rw [getE_iff (less_ks h D).nd, getE_iff h.nd, mem_less]
  constructor
  · rintro ⟨⟨a, _⟩, b⟩; exact ⟨a, b⟩
  · rintro ⟨a, b⟩; exact ⟨⟨a, fun x hx => by rw [b]; exact hk x hx⟩, b⟩
theorem less_due (h : KS T) (now : Int) : lessT T (Alm.due now (alS T)) = restT T now := by
  refine List.filter_congr fun e he => ?_
  have hk := (alS_of h).kd h
  have hsp := due_left now (alS T)
  cases hs : e.2.2.2 with
  | true =>
    simp only [Bool.true_or, Bool.not_eq_true', List.any_eq_false, decide_eq_true_eq]
    intro x hx q
    have hx' : x ∈ alS T := by rw [← hsp]; exact List.mem_append_left _ hx
    obtain ⟨y, hy, hy2, rfl⟩ := (alS_mem h).1 hx'
    have : y = e := by
      have h1 := getE_mem h.nd hy
      have h2 := getE_mem h.nd he
      simp only at q
      rw [q] at h1
      rw [h1] at h2
      exact Option.some.inj h2
    rw [this, hs] at hy2; cases hy2
  | false =>
    have hm : (e.1, e.2.2.1) ∈ alS T := (alS_mem h).2 ⟨e, he, hs, rfl⟩
    simp only [Bool.false_or]
    by_cases q : now < e.2.2.1
    · rw [decide_eq_true q]
      simp only [Bool.not_eq_true', List.any_eq_false, decide_eq_true_eq]
      intro x hx w
      have hx' : x ∈ alS T := by rw [← hsp]; exact List.mem_append_left _ hx
      have e1 := getA_mem hk hx'
      have e2 := getA_mem hk hm
      simp only at e2
      rw [w, e2] at e1
      have : x.2 ≤ now := by
        have := List.all_takeWhile (p := fun z : Al => decide (z.2 ≤ now)) (l := alS T)
        simpa using List.all_eq_true.1 this x hx
      injection e1 with e1
      omega
    · rw [decide_eq_false q]
      simp only [Bool.not_eq_false', List.any_eq_true, decide_eq_true_eq]
      refine ⟨(e.1, e.2.2.1), ?_, rfl⟩
      rw [← hsp] at hm
      rcases List.mem_append.1 hm with w | w
      · exact w
      · exact absurd ((mem_left (alS_of h).srt).1 w).2 q
theorem due_t (f : FreeT orc) (h : TAt σ p F T room ref) (now : Int) (hn : 1024 < n)
    (hQ : ∀ σ' v, TAt σ' p F (restT T now) room ref → SlAt σ' 69 4 encE v (dueT T now) → (∀ b ∈ blks v, σ.next ≤ b) → Same σ σ' F → Q (v, σ')) :
    W (acall Try.prog gs orc (n + 13) 47 [pt p, .int .i64 now] σ) Q := by
  have hlo := h.low
  have hal := h.al_len
  obtain ⟨⟨m, pa, Fa, M, hp, hM, rfl⟩, hks, hok, hlen, hrm⟩ := h
  have hfl := hp.al.low
  have hml := hp.ml
  have hpl := hp.obj.1
  rw [W_start (m := 30) (keep := []) Try.func47 rfl (by kernel_rfl) (by kernel_rfl) (by first | rfl | assumption | exact f.h47) (by rfl)]
  simp (maxSteps := 2000000) only [B0, B1, B2, B3, B4, B5, B6, B7, Gd, extV, Nat.reduceLT, Nat.reduceEqDiff, Nat.reduceBEq, Nat.reduceAdd, Nat.reduceSub, Nat.reduceMul, ↓reduceIte, reduceCtorEq, if_true, if_false, ite_true, ite_false, Int.reduceLT, Int.reduceLE, ptr, callV_func Try.enters_115, Try.fa_195_1, Try.ld_23, callV_func Try.enters_24, Try.len_27, Try.ia_27, Try.ld_32, allocV_zero Try.zero_32, Try.st_32, Try.fa_32_0, Try.ld_9, callV_func Try.enters_120, tnone_run f hp,  hp.ld1, rs_tmp (show Try.f47.results = #[.tmp 4] from rfl)]
  refine due_run f.toFree3 hp.al now (by omega) (by omega) fun σ1 vd h1 hvd hbd hS1 => ?_
  have hp1 := hp.call h1 (fun b hb => .inl hb) hS1
  have hn1 := hS1.next
  have hkd := (alS_of hks).kd hks
  have hsp := due_left now (alS T)
  have hdl : (Alm.due now (alS T)).length ≤ 1024 := by have := congrArg List.length hsp; simp at this; omega
  have hdmem : ∀ x ∈ Alm.due now (alS T), ∃ e, getE x.1 T = some e := fun x hx => by
    have hx' : x ∈ alS T := by rw [← hsp]; exact List.mem_append_left _ hx
    obtain ⟨y, hy, _, rfl⟩ := (alS_mem hks).1 hx'
    exact ⟨y, getE_mem hks.nd hy⟩
  have hdk : KD (Alm.due now (alS T)) := by unfold KD at *; exact List.Nodup.sublist ((List.takeWhile_sublist _).map _) hkd
  have hnl : ∀ x ∈ Alm.due now (alS T), remA x.1 (left now (alS T)) = left now (alS T) := fun x hx => remA_not fun y hy e => by
    have h2 : KD (Alm.due now (alS T) ++ left now (alS T)) := by rw [hsp]; exact hkd
    unfold KD at h2
    rw [List.map_append, List.nodup_append] at h2
    exact h2.2.2 x.1 (List.mem_map.2 ⟨x, hx, rfl⟩) y.1 (List.mem_map.2 ⟨y, hy, rfl⟩) e.symm
  have hdt : dueT T now = (Alm.due now (alS T)).map fun x => (getE x.1 T).getD zE := rfl
  have hrest := less_due hks now
  have hleft := alS_rest hks now
  have hll : (left now (alS T)).length ≤ 1024 := by have := congrArg List.length hsp; simp at this; omega
  generalize Alm.due now (alS T) = D at *
  generalize left now (alS T) = R at *
  obtain ⟨a, c, rfl, hac⟩ := hvd.len
  simp (maxSteps := 2000000) only [B0, B1, B2, B3, B4, B5, B6, B7, Gd, extV, Nat.reduceLT, Nat.reduceEqDiff, Nat.reduceBEq, Nat.reduceAdd, Nat.reduceSub, Nat.reduceMul, ↓reduceIte, reduceCtorEq, if_true, if_false, ite_true, ite_false, Int.reduceLT, Int.reduceLE, ptr, callV_func Try.enters_115, Try.fa_195_1, Try.ld_23, callV_func Try.enters_24, Try.len_27, Try.ia_27, Try.ld_32, allocV_zero Try.zero_32, Try.st_32, Try.fa_32_0, Try.ld_9, callV_func Try.enters_120, rs_tmp (show Try.f47.results = #[.tmp 4] from rfl)]
  refine W_inv (fun k fr σ' => ∃ (t : Tr Value) (j : Nat) (v : Value) (M' : Prs), fr = ⟨30, t⟩ ∧ t.get 0 = some (pt p) ∧ t.get 5 = some v ∧ t.get 15 = some (.slice a D.length c) ∧ t.get 16 = some (.int .i64 (D.length : Int)) ∧ t.get 17 = some (.int .i64 (j : Int)) ∧ k + j = D.length ∧ TabP σ' p m pa Fa M' R room ref ∧ MapE M' (lessT T (D.take j)) ∧ SlAt σ' 69 4 encE v ((D.take j).map fun x => (getE x.1 T).getD zE) ∧ (∀ b ∈ blks v, σ1.next ≤ b) ∧ Same σ1 σ' (m :: Fa)) D.length (by omega)
    ⟨_, 0, .slice none 0 0, M, rfl, by simp [get_put, get_args], by simp [get_put, get_args], by simp [get_put], by simp [get_put], by simp [get_put], rfl, hp1, by rw [List.take_zero, less_nil]; exact hM, .inl ⟨rfl, rfl⟩, nofun, .refl _ _⟩ ?_
  rintro k fr σ2 ⟨t, j, v, M2, rfl, t0, t5, t15, t16, t17, hk, hp2, hM2, hv, hbv, hS2⟩
  have hn2 := hS2.next
  by_cases hj : j < D.length
  · have hx := List.getElem?_eq_getElem hj
    have hxm := List.getElem_mem hj
    have htk : D.take (j + 1) = D.take j ++ [D[j]] := by rw [List.take_add_one, hx]; rfl
    have hnk : ∀ x ∈ D.take j, x.1 ≠ D[j].1 := fun x hx' e => by
      have h2 : KD (D.take (j + 1)) := by unfold KD at *; exact List.Nodup.sublist ((List.take_sublist _ _).map _) hdk
      rw [htk] at h2
      unfold KD at h2
      rw [List.map_append, List.nodup_append] at h2
      exact h2.2.2 x.1 (List.mem_map.2 ⟨x, hx', rfl⟩) _ (by simp) e
    generalize D[j] = x at hx hxm htk hnk
    obtain ⟨e, hge⟩ := hdmem x hxm
    have hvd2 := hvd.same hS2 (fun b hb q => by have := hbd b hb; simp at q; rcases q with q | q; omega; have := hfl _ q; omega)
    obtain ⟨b, o, cap, g0, e0, hb, hbl, hr⟩ := hvd2.at_ hx
    injection e0 with e0 _ e3
    subst e0 e3
    have hld := hr.ldCells encOk hx
    obtain ⟨σ3, σ4, e3, t4, hS4, v4, hn4, _⟩ := AE.newVar σ2 32 [.string ⟨#[]⟩, .int .i64 0] (encA x) rfl (encOk.single x)
    have x0 : ld σ4 σ2.next 0 = some (.string x.1) := v4.ld rfl
    simp only [encA] at hld e3 t4
    have hp4 := hp2.same0 hS4
    have hj' : (j : Int) < (D.length : Int) := by omega
    have hw1 : IntKind.i64.wrap ((j : Int) + 1) = ((j + 1 : Nat) : Int) := wrap64 (by omega) (by omega)
    have hg2 : getE x.1 (lessT T (D.take j)) = some e := by rw [less_get hks hnk]; exact hge
    simp (maxSteps := 2000000) only [B0, B1, B2, B3, B4, B5, B6, B7, Gd, extV, Nat.reduceLT, Nat.reduceEqDiff, Nat.reduceBEq, Nat.reduceAdd, Nat.reduceSub, Nat.reduceMul, ↓reduceIte, reduceCtorEq, if_true, if_false, ite_true, ite_false, Int.reduceLT, Int.reduceLE, ptr, callV_func Try.enters_115, Try.fa_195_1, Try.ld_23, callV_func Try.enters_24, Try.len_27, Try.ia_27, Try.ld_32, allocV_zero Try.zero_32, Try.st_32, Try.fa_32_0, Try.ld_9, callV_func Try.enters_120, t0,  t5,  t15,  t16,  t17,  hj',  hj,  hld,  e3,  t4,  Value.cells,  List.size_toArray,  x0, rs_tmp (show Try.f47.results = #[.tmp 4] from rfl)]
    refine takes_run f hp4 x.1 (e := e) (by rw [hM2.get, hg2]; rfl) (by omega) (by omega) fun σ5 hp5 hS5 => ?_
    rw [hnl x hxm] at hp5
    have hM5 := hM2.del hp4.mp.nodup (less_ks hks _) x.1
    rw [less_del, ← htk] at hM5
    have hvv : ∀ b ∈ blks v, b ∉ m :: Fa := fun b hb q => by have := hbv b hb; simp at q; rcases q with q | q; omega; have := hfl _ q; omega
    have hv5 := (hv.same hS4 nofun).same hS5 hvv
    obtain ⟨av, cv, rfl, hcv⟩ := hv5.len
    obtain ⟨σ6, v7, σ7, hbs, hap, hv7, hS7, hb7, hS6, hn7⟩ := append_one encEOk Try.underlying66 Try.underlying66 Try.elem_69 rfl (by decide) hv5 e (xv := .agg #[.string e.1, .int .i64 e.2.1, .int .i64 e.2.2.1, .bool e.2.2.2]) rfl (by simp; omega)
    simp (maxSteps := 2000000) only [B0, B1, B2, B3, B4, B5, B6, B7, Gd, extV, Nat.reduceLT, Nat.reduceEqDiff, Nat.reduceBEq, Nat.reduceAdd, Nat.reduceSub, Nat.reduceMul, ↓reduceIte, reduceCtorEq, if_true, if_false, ite_true, ite_false, Int.reduceLT, Int.reduceLE, ptr, callV_func Try.enters_115, Try.fa_195_1, Try.ld_23, callV_func Try.enters_24, Try.len_27, Try.ia_27, Try.ld_32, allocV_zero Try.zero_32, Try.st_32, Try.fa_32_0, Try.ld_9, callV_func Try.enters_120, t0,  t15,  t16,  t17,  enV,  hbs,  hap,  hw1,  KInv_normal, rs_tmp (show Try.f47.results = #[.tmp 4] from rfl)]
    have hn5 := hS5.next
    refine ⟨D.length - (j + 1), by omega, _, j + 1, v7, _, rfl, by simp [get_put, t0], by simp [get_put], by simp [get_put, t15], by simp [get_put, t16], by simp [get_put], by omega, hp5.same hS7 (fun q => by have := hbv _ q; omega) (fun q => by have := hbv _ q; omega) (fun b hb q => by have := hbv _ q; have := hfl b hb; omega), hM5, ?_, fun b hb => ?_, ?_⟩
    · rw [htk, List.map_append, List.map_cons, List.map_nil, hge]; exact hv7
    · rcases hb7 b hb with w | w
      · exact hbv b w
      · omega
    · exact (((hS2.app hS4).app hS5).app hS7).old fun b hb => by
        simp only [List.append_nil, List.mem_append] at hb
        rcases hb with (hb | hb) | hb
        · exact .inl hb
        · exact .inl hb
        · exact .inr (hbv b hb)
  · have hj' : ((j : Int) < (D.length : Int)) = False := by simp; omega
    have hje : D.take j = D := List.take_of_length_le (by omega)
    rw [hje] at hM2 hv
    simp (maxSteps := 2000000) only [B0, B1, B2, B3, B4, B5, B6, B7, Gd, extV, Nat.reduceLT, Nat.reduceEqDiff, Nat.reduceBEq, Nat.reduceAdd, Nat.reduceSub, Nat.reduceMul, ↓reduceIte, reduceCtorEq, if_true, if_false, ite_true, ite_false, Int.reduceLT, Int.reduceLE, ptr, callV_func Try.enters_115, Try.fa_195_1, Try.ld_23, callV_func Try.enters_24, Try.len_27, Try.ia_27, Try.ld_32, allocV_zero Try.zero_32, Try.st_32, Try.fa_32_0, Try.ld_9, callV_func Try.enters_120, t0,  t5,  t15,  t16,  t17,  hj', rs_tmp (show Try.f47.results = #[.tmp 4] from rfl)]
    rw [hrest] at hM2
    rw [← hdt] at hv
    rw [hleft] at hp2
    refine hQ σ2 v ⟨⟨m, pa, Fa, M2, hp2, hM2, rfl⟩, rest_ks hks now, fun e he => hok e (mem_rest.1 he).1, Nat.le_trans (List.length_filter_le _ _) hlen, hrm⟩ hv (fun b hb => by have := hbv b hb; omega) ((hS1.app hS2).old fun b hb => ?_)
    simp at hb ⊢
    rcases hb with hb | hb | hb
    · exact .inl (.inr (.inr hb))
    · exact .inl (.inr (.inl hb))
    · exact .inl (.inr (.inr hb))
end Go.Proofs.Ytongccpmdndcgaa.Tab
end
/- Tables: All, Copy. -/
section
set_option linter.all false
namespace Go.Proofs.Ytongccpmdndcgaa.Tab
open Go Go.AE Go.Proofs.Ytongccpmdndcgaa.Alm Go.Sort Go.Proofs
set_option maxRecDepth 100000
set_option maxHeartbeats 1000000
attribute [local irreducible] Go.AE.Tr.put Go.AE.Tr.get
variable {gs : List Nat} {orc : Orc} {n : Nat} {σ : AHeap} {Q : Value × AHeap → Prop}
variable {p room : Nat} {F : List Nat} {T : List E} {ref : Bool}

structure FreeU (orc : Orc) : Prop extends FreeT orc, Free4 orc where
  o116 : orc 116 = some (sortedO 9 [164, 167])
  o122 : orc 122 = some cloneO
end Go.Proofs.Ytongccpmdndcgaa.Tab
end
/- Tables: Sweep; rows of entries compared and searched. -/
section
set_option linter.all false
namespace Go.Proofs.Ytongccpmdndcgaa.Tab
open Go Go.AE Go.Proofs.Ytongccpmdndcgaa.Alm Go.Sort Go.Proofs
set_option maxRecDepth 100000
set_option maxHeartbeats 1000000
attribute [local irreducible] Go.AE.Tr.put Go.AE.Tr.get
variable {gs : List Nat} {orc : Orc} {n : Nat} {σ : AHeap} {Q : Value × AHeap → Prop}
variable {p room : Nat} {F : List Nat} {T : List E} {ref : Bool}

end Go.Proofs.Ytongccpmdndcgaa.Tab
end
