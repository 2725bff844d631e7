/- Texts of this proof, gathered. What each part says stands at its head; conditions: none but those that its theorems name. -/
import Derived.Test.YtongccpmdndcgaaLeb
import Derived.Test.YtongccpmdndcgaaE4
/- Plain laws of the last port. -/
section
set_option linter.all false
namespace Go.Proofs.Ytongccpmdndcgaa.Lrn
open Go Go.AE Go.Proofs.Ytongccpmdndcgaa.Alm Go.Proofs.Ytongccpmdndcgaa.Tab Go.Sort Go.Proofs
set_option maxRecDepth 100000
variable {T : List E}

def dm (d : Nat) : Nat := if d = 0 then 1 else if d = 1 then 2 else 4097
theorem dm_ok {d : Nat} : okDom (dm d : Int) := by unfold dm okDom; split; omega; split <;> omega
theorem dm_lt {d : Nat} : dm d < 65536 := by unfold dm; split; omega; split <;> omega
theorem dm_inj {d e : Nat} (hd : d < 3) (he : e < 3) (h : dm d = dm e) : d = e := by unfold dm at h; split at h <;> split at h <;> (try split at h) <;> (try split at h) <;> omega
theorem kL_inj {d e w v : Nat} (hd : d < 3) (he : e < 3) (hw : w < 8) (hv : v < 8) (h : kS (dm d) w = kS (dm e) v) : w = v ∧ d = e := by
  obtain ⟨h1, h2⟩ := kS_inj dm_lt dm_lt h
  exact ⟨by omega, dm_inj hd he h1⟩
/-- What is known of the stations: when each was seen last, and where. -/
abbrev Known := Nat × Nat → Option (Int × Int)
def liveE (g : Known) (age now : Int) (w d : Nat) : Option E := match g (w, d) with
  | some q => if now < q.1 + age then some (kS (dm d) w, q.2, q.1 + age, false) else none
  | none => none
def toldE (o : Option E) (p : Int) : Int := match o with
  | some e => if e.2.1 = p then 0 else 2
  | none => 1
structure Lst (T : List E) (g : Known) (age now : Int) (m : Nat) : Prop where
  get : ∀ w d, w < 8 → d < 3 → getE (kS (dm d) w) T = liveE g age now w d
  st : ∀ e ∈ T, e.2.2.2 = false
  len : T.length ≤ m
theorem getE_rest (h : KS T) (hst : ∀ e ∈ T, e.2.2.2 = false) {k : ByteArray} {now : Int} : getE k (restT T now) = (getE k T).filter fun e => decide (now < e.2.2.1) := by
  cases hg : getE k T with
  | none =>
    have : getE k (restT T now) = none := getE_none.2 fun e he => getE_none.1 hg e (mem_rest.1 he).1
    rw [this]; rfl
  | some e =>
    obtain ⟨h1, h2⟩ := getE_key hg
    by_cases hn : now < e.2.2.1
    · rw [Option.filter_some_pos (by simpa using hn)]
      exact (getE_iff (rest_ks h now).nd).2 ⟨mem_rest.2 ⟨h1, .inr hn⟩, h2⟩
    · rw [Option.filter_some_neg (by simpa using hn)]
      refine getE_none.2 fun x hx hk => ?_
      obtain ⟨x1, x2⟩ := mem_rest.1 hx
      have := getE_mem h.nd x1
      rw [hk, hg] at this
      obtain rfl := Option.some.inj this
      rcases x2 with w | w
      · rw [hst _ x1] at w; cases w
      · exact hn w
theorem Lst.tick {g : Known} {age now now' : Int} {m : Nat} (h : Lst T g age now m) (hks : KS T) (hn : now ≤ now') : Lst (restT T now') g age now' m := by
  refine ⟨fun w d hw hd => ?_, fun e he => h.st e (mem_rest.1 he).1, Nat.le_trans (List.length_filter_le _ _) h.len⟩
  rw [getE_rest hks h.st, h.get w d hw hd]
  unfold liveE
  cases g (w, d) with
  | none => rfl
  | some q =>
    simp only
    by_cases h1 : now' < q.1 + age
    · rw [if_pos h1, if_pos (by omega)]
      exact Option.filter_some_pos (by simpa using h1)
    · rw [if_neg h1]
      split
      · exact Option.filter_some_neg (by simpa using h1)
      · rfl
theorem Lst.see {g : Known} {age now : Int} {m : Nat} (h : Lst T g age now m) (hks : KS T) (hm : m < 256) (ha : 1 ≤ age) (h0 : 0 ≤ now) (h1 : now + age ≤ 1099511627776) {w d : Nat} (hw : w < 8) (hd : d < 3) (p : Int) :
    Lst (seeT T age (kS (dm d) w) p now).1 (fun b => if b = (w, d) then some (now, p) else g b) age now (m + 1) ∧
    (seeT T age (kS (dm d) w) p now).2 = toldE (liveE g age now w d) p := by
  have hst : ((getE (kS (dm d) w) T).map (·.2.2.2)).getD false = false := by
    cases hg : getE (kS (dm d) w) T with
    | none => rfl
    | some e => simp [h.st e (getE_key hg).1]
  rw [seeT_room kS_size hst (by omega) (by omega) h1 (by have := h.len; omega)]
  refine ⟨⟨fun v e hv he => ?_, fun e he => ?_, by have := putE_len_le hks (kS (dm d) w, p, now + age, false); have := h.len; simp only; omega⟩, ?_⟩
  · rw [getE_put hks]
    unfold liveE
    by_cases hk : kS (dm e) v = kS (dm d) w
    · obtain ⟨rfl, rfl⟩ := kL_inj he hd hv hw hk
      simp only [if_true]
      rw [if_pos (by omega)]
    · have hne : ¬ ((v, e) : Nat × Nat) = (w, d) := fun q => hk (by injection q with q1 q2; rw [q1, q2])
      rw [if_neg hk]
      simp only [if_neg hne]
      exact h.get v e hv he
  · rcases mem_putE.1 he with rfl | ⟨w, _⟩
    · rfl
    · exact h.st e w
  · simp only [h.get w d hw hd]
    rfl
end Go.Proofs.Ytongccpmdndcgaa.Lrn
end
/- The law on the last port: the run. -/
section
set_option linter.all false
namespace Go.Proofs.Ytongccpmdndcgaa.Lrn
open Go Go.AE Go.Proofs.Ytongccpmdndcgaa.Alm Go.Proofs.Ytongccpmdndcgaa.Tab Go.Sort Go.Proofs
set_option maxRecDepth 100000
set_option maxHeartbeats 4000000
attribute [local irreducible] Go.AE.Tr.put Go.AE.Tr.get
variable {gs : List Nat} {orc : Orc} {n : Nat} {σ : AHeap} {Q : Value × AHeap → Prop}
variable {s tp : Nat} {F : List Nat} {T : List E} {age : Int}

abbrev kf (a : Nat × Nat) : Value := .agg #[.int .i64 (a.1 : Int), .int .i64 (a.2 : Int)]
theorem keyL : KeyK Try.prog 111 kf := by
  refine ⟨fun a => ?_, fun a b => ?_, by kernel_rfl, fun a => ?_⟩
  · have : ∀ x y : Int, keyOk Try.prog 111 (.agg #[.int .i64 x, .int .i64 y]) = true := by intro x y; kernel_rfl
    exact this _ _
  · have := eq_arr (P := Try.prog) (d := 9999) (t := 111) (e := 3) (len := 2) (f := Value.int .i64) (A := [(a.1 : Int), (a.2 : Int)]) (B := [(b.1 : Int), (b.2 : Int)]) Try.underlying111 (pureP_size Try.size_3) rfl rfl (fun x y => eq_int Try.underlying3) (by kernel_rfl)
    have hp : (plain (kf a) && plain (kf b)) = true := rfl
    have e : keyEq Try.prog 111 false (kf a) (kf b) = some (decide ([(a.1 : Int), (a.2 : Int)] = [(b.1 : Int), (b.2 : Int)])) := by
      unfold keyEq
      simp only [hp]
      exact this
    rw [e]
    refine congrArg some (decide_eq_decide.2 ⟨fun h => ?_, fun h => by rw [h]⟩)
    obtain ⟨a1, a2⟩ := a
    obtain ⟨b1, b2⟩ := b
    simp at h
    rw [Int.ofNat.inj h.1, Int.ofNat.inj h.2]
  · simp [plain, plainF, Instr.sameBits]
theorem LO.other {σ1 σ2 : AHeap} {G : List Nat} (w : LO σ σ1 s tp F T age) (hS : Same σ1 σ2 G) (hF : ∀ b ∈ F, b ∉ G) (hs : s ∉ G) (hG : ∀ b ∈ G, σ.next ≤ b) : LO σ σ2 s tp F T age :=
  ⟨w.h.same hS hs hF, w.low, w.slow, (w.same.app hS).old fun b hb => by simp at hb; exact .inr (hG b hb)⟩
theorem VL.other {σ1 σ2 : AHeap} {G : List Nat} {b : Nat} {vs : List Value} (w : VL σ1 s F b vs) (hS : Same σ1 σ2 G) (hb : b ∉ G) : VL σ2 s F b vs := ⟨w.v.same hS hb, w.nF, w.ns⟩
/-- A map beside the stations. -/
structure MK (σ σ' : AHeap) (s : Nat) (F : List Nat) (m : Nat) (g : Nat × Nat → Option Value) : Prop where
  mp : MapK kf σ' m g
  lt : m < σ'.next
  low : σ.next ≤ m
  nF : m ∉ F
  ns : m ≠ s
theorem MK.call {σ1 σ2 : AHeap} {F' : List Nat} {m : Nat} {g : Nat × Nat → Option Value} (w : MK σ σ1 s F m g) (hF : ∀ b ∈ F', b ∈ F ∨ σ1.next ≤ b) (hS : Same σ1 σ2 F) : MK σ σ2 s F' m g :=
  ⟨w.mp.same hS w.lt w.nF, Nat.lt_of_lt_of_le w.lt hS.next, w.low, fun q => by rcases hF m q with z | z; exact w.nF z; have := w.lt; omega, w.ns⟩
theorem MK.other {σ1 σ2 : AHeap} {G : List Nat} {m : Nat} {g : Nat × Nat → Option Value} (w : MK σ σ1 s F m g) (hS : Same σ1 σ2 G) (hm : m ∉ G) : MK σ σ2 s F m g :=
  ⟨w.mp.same hS w.lt hm, Nat.lt_of_lt_of_le w.lt hS.next, w.low, w.nF, w.ns⟩
theorem SlR.back {α : Type} {k : Nat} {enc : α → List Value} {σ σ' : AHeap} {v : Value} {A : List α} (h : SlR σ' k enc v A) (hs : Same σ σ' []) (hb : ∀ b ∈ blks v, b < σ.next) : SlR σ k enc v A := by
  rcases h with h | ⟨b, o, cap, rfl, h2, h3⟩
  · exact .inl h
  · have := hb b (by simp [blks])
    exact .inr ⟨b, o, cap, rfl, this, fun i x hi => by rw [← hs.ldCells this nofun]; exact h3 i x hi⟩
theorem SlR.lt {α : Type} {k : Nat} {enc : α → List Value} {σ : AHeap} {b o cap : Nat} {A : List α} {l : Nat} (h : SlR σ k enc (.slice (some ⟨b, o, none⟩) l cap) A) (hl : 0 < l) : b < σ.next := by
  rcases h with ⟨a, c, e, rfl⟩ | ⟨b', o', cap', e, h2, _⟩
  · injection e with _ e2 _; omega
  · injection e with e _ _
    injection e with e
    injection e with e
    rw [e]; exact h2
abbrev lastV (g : Known) : Nat × Nat → Option Value := fun a => (g a).map fun q => .int .i64 q.1
abbrev portV (g : Known) : Nat × Nat → Option Value := fun a => (g a).map fun q => .int .i64 q.2
abbrev domV : List Value := [.int .i64 1, .int .i64 2, .int .i64 4097]
theorem dom_at {d : Nat} (h : d < 3) : domV[d]? = some (.int .i64 (dm d : Int)) := by
  rcases (show d = 0 ∨ d = 1 ∨ d = 2 by omega) with rfl | rfl | rfl <;> rfl
theorem bld111 {a b : Int} : build' Try.prog 111 [(0, .int .i64 a), (1, .int .i64 b)] = some (.agg #[.int .i64 a, .int .i64 b]) := by kernel_rfl
/-- All that stands in memory. -/
structure Wl (σ σ' : AHeap) (s tp : Nat) (F : List Nat) (T : List E) (age : Int) (m1 m2 b7 : Nat) (g : Known) : Prop where
  w : LO σ σ' s tp F T age
  l : MK σ σ' s F m1 (lastV g)
  p : MK σ σ' s F m2 (portV g)
  d : VL σ' s F b7 domV
  m12 : m1 ≠ m2
  m17 : m1 ≠ b7
  m27 : m2 ≠ b7
variable {m1 m2 b7 : Nat} {g : Known}
theorem Wl.step {σ1 σ2 : AHeap} (h : Wl σ σ1 s tp F T age m1 m2 b7 g) (hS : Same σ1 σ2 []) : Wl σ σ2 s tp F T age m1 m2 b7 g :=
  ⟨h.w.step hS, h.l.other hS nofun, h.p.other hS nofun, h.d.step hS, h.m12, h.m17, h.m27⟩
theorem Wl.call {σ1 σ2 : AHeap} {F' : List Nat} {T' : List E} (h : Wl σ σ1 s tp F T age m1 m2 b7 g) (hh : LAt σ2 s tp F' T' age) (hF : ∀ b ∈ F', b ∈ F ∨ σ1.next ≤ b) (hS : Same σ1 σ2 F) : Wl σ σ2 s tp F' T' age m1 m2 b7 g :=
  ⟨h.w.call hh hF hS, h.l.call hF hS, h.p.call hF hS, h.d.call hF hS, h.m12, h.m17, h.m27⟩
theorem Wl.var {σ1 : AHeap} (h : Wl σ σ1 s tp F T age m1 m2 b7 g) (t : TypeId) (zs vs : List Value) (hl : vs.length = zs.length) (hs : ∀ v ∈ vs, single v = true) :
    ∃ σ2 σ3, (newCells σ1 t zs).2 = σ2 ∧ stCells σ2 σ1.next 0 vs = some σ3 ∧ Wl σ σ3 s tp F T age m1 m2 b7 g ∧ VL σ3 s F σ1.next vs ∧ Same σ1 σ3 [] ∧ σ3.next = σ1.next + 1 ∧ σ1.next ≠ m1 ∧ σ1.next ≠ m2 := by
  obtain ⟨σ2, σ3, e2, t3, w3, x3, hS, hn⟩ := h.w.var t zs vs hl hs
  exact ⟨σ2, σ3, e2, t3, h.step hS, x3, hS, hn, by have := h.l.lt; omega, by have := h.p.lt; omega⟩
/-- What is seen is noted. -/
theorem Wl.put {σ1 : AHeap} (h : Wl σ σ1 s tp F T age m1 m2 b7 g) (a : Nat × Nat) (l p : Int) :
    ∃ o1 o2, mapPut Try.prog 105 (.map (some m1)) (kf a) (.int .i64 l) σ1 = some (σ1.set m1 o1) ∧ mapPut Try.prog 106 (.map (some m2)) (kf a) (.int .i64 p) (σ1.set m1 o1) = some ((σ1.set m1 o1).set m2 o2) ∧
      Wl σ ((σ1.set m1 o1).set m2 o2) s tp F T age m1 m2 b7 (fun b => if b = a then some (l, p) else g b) ∧ Same σ1 (σ1.set m1 o1) [m1] ∧ Same (σ1.set m1 o1) ((σ1.set m1 o1).set m2 o2) [m2] := by
  obtain ⟨o1, p1, k1⟩ := h.l.mp.put keyL (t := 105) Try.underlying105 a (.int .i64 l)
  have hS1 := Same.set σ1 m1 o1
  have h12 := h.m12
  have h17 := h.m17
  have h27 := h.m27
  have w1 := h.w.other hS1 (fun b hb q => h.l.nF (by simp at q; exact q ▸ hb)) (by simp; exact fun q => h.l.ns q.symm) (by simp; exact h.l.low)
  have pp := h.p.other hS1 (by simp; exact fun q => h12 q.symm)
  obtain ⟨o2, p2, k2⟩ := pp.mp.put keyL (t := 106) Try.underlying106 a (.int .i64 p)
  have hS2 := Same.set (σ1.set m1 o1) m2 o2
  have w2 := w1.other hS2 (fun b hb q => h.p.nF (by simp at q; exact q ▸ hb)) (by simp; exact fun q => h.p.ns q.symm) (by simp; exact h.p.low)
  have l1 : MK σ (σ1.set m1 o1) s F m1 (fun b => if b = a then some (.int .i64 l) else lastV g b) := ⟨k1, h.l.lt, h.l.low, h.l.nF, h.l.ns⟩
  have l2 := l1.other hS2 (by simp; exact h12)
  have p2' : MK σ ((σ1.set m1 o1).set m2 o2) s F m2 (fun b => if b = a then some (.int .i64 p) else portV g b) := ⟨k2, h.p.lt, h.p.low, h.p.nF, h.p.ns⟩
  have el : (fun b => if b = a then some (.int .i64 l) else lastV g b) = lastV (fun b => if b = a then some (l, p) else g b) := by
    funext b
    unfold lastV
    by_cases hb : b = a <;> simp [hb]
  have ep : (fun b => if b = a then some (.int .i64 p) else portV g b) = portV (fun b => if b = a then some (l, p) else g b) := by
    funext b
    unfold portV
    by_cases hb : b = a <;> simp [hb]
  rw [el] at l2
  rw [ep] at p2'
  exact ⟨o1, o2, p1, p2, ⟨w2, l2, p2', (h.d.other hS1 (by simp; exact fun q => h17 q.symm)).other hS2 (by simp; exact fun q => h27 q.symm), h12, h17, h27⟩, hS1, hS2⟩
end Go.Proofs.Ytongccpmdndcgaa.Lrn
end
/- The law on the last port: the run's rounds. -/
section
set_option linter.all false
namespace Go.Proofs.Ytongccpmdndcgaa.Lrn
open Go Go.AE Go.Proofs.Ytongccpmdndcgaa.Alm Go.Proofs.Ytongccpmdndcgaa.Tab Go.Sort Go.Proofs
set_option maxRecDepth 100000
set_option maxHeartbeats 4000000
attribute [local irreducible] Go.AE.Tr.put Go.AE.Tr.get
variable {gs : List Nat} {orc : Orc} {n : Nat} {σ : AHeap} {Q : Value × AHeap → Prop}

theorem same_kf {a b : Int} : sameV 6 (.agg #[.int .i64 a, .int .i64 b]) (.agg #[.int .i64 a, .int .i64 b]) = true := by simp [sameV]
theorem opt_len' (o : Option E) : ((o.map encSt).getD zSt).length = 10 := by cases o <;> rfl
theorem opt_single' (o : Option E) : ∀ v ∈ (o.map encSt).getD zSt, single v = true := by
  cases o with
  | none => intro v hv; simp [zSt] at hv; rcases hv with rfl | rfl | rfl | rfl <;> rfl
  | some e => exact encStOk.single e
theorem opt_size' (o : Option E) : ((o.map encSt).getD zSt).toArray.size = 10 := by cases o <;> rfl
theorem opt_list' (o : Option E) : ((o.map encSt).getD zSt).toArray.toList = (o.map encSt).getD zSt := rfl
theorem last_run (f : FreeS orc) {a : Nat} {v : Value} {L : List Sn} (hv : SlR σ 4 encSn v L) (hc : SlCut σ v) (hn : 1100 ≤ n) (hQ : ∀ σ', Same σ σ' [] → Q (.bool true, σ')) : W (acall Try.prog gs orc (n + 20) 10 [.int .u8 (a : Int), v] σ) Q := by
  obtain ⟨a0, c0, rfl⟩ := hv.len
  have hwa1 : IntKind.i64.wrap ((a % 20 : Nat) : Int) = ((a % 20 : Nat) : Int) := wrap64 (by omega) (by omega)
  have hwa2 : IntKind.i64.wrap (1 + ((a % 20 : Nat) : Int)) = ((1 + a % 20 : Nat) : Int) := by rw [wrap64 (by omega) (by omega)]; omega
  have b104 : build' Try.prog 104 [(0, .int .i64 1), (1, .int .i64 2), (2, .int .i64 4097)] = some (.agg #[.int .i64 1, .int .i64 2, .int .i64 4097]) := by kernel_rfl
  rw [W_start (m := 197) (keep := [16, 17, 25, 35]) Try.func10 rfl (by kernel_rfl) (by kernel_rfl) (by first | rfl | assumption | exact f.h10) (by rfl)]
  simp (maxSteps := 2000000) only [B0, B1, B2, B3, B4, B5, B6, B7, Gd, extV, Nat.reduceLT, Nat.reduceEqDiff, Nat.reduceBEq, Nat.reduceAdd, Nat.reduceSub, Nat.reduceMul, ↓reduceIte, reduceCtorEq, if_true, if_false, ite_true, ite_false, Int.reduceLT, Int.reduceLE, ptr, callV_func Try.enters_64, allocV_zero Try.zero_104, Try.st_104, Try.len_100, Try.ia_100, Try.ld_108, allocV_zero Try.zero_108, Try.st_108, Try.fa_108_3, Try.ld_5, callV_func Try.enters_65, Try.fa_108_0, Try.fa_108_1, allocV_zero Try.zero_111, Try.st_111, Try.ld_111, callV_func Try.enters_66, Try.ia_111, Try.ld_3, Try.ia_104, callV_func Try.enters_68, Try.fa_108_2, callV_func Try.enters_67, Try.ld_104, callV_func Try.enters_69, allocV_zero Try.zero_120, Try.st_120, Try.fa_120_2, Try.fa_120_3, Try.ld_2, Try.fa_120_4, Try.ld_4, callV_func Try.enters_70, rem20,  conv_int Try.underlying5 Try.underlying2,  hwa1,  hwa2, rs_tmp (show Try.f10.results = #[.tmp 4] from rfl)]
  obtain ⟨age, hage⟩ : ∃ age : Int, ((1 + a % 20 : Nat) : Int) = age := ⟨_, rfl⟩
  have ha1 : 1 ≤ age ∧ age ≤ 20 := by omega
  rw [hage]
  refine lnew_run (t := age) f.toFreeL (by omega) (by omega) fun σ1 s tp F h1 hs1 hF1 hS1 => ?_
  have w1 : LO σ σ1 s tp F [] age := ⟨h1, hF1, hs1, hS1⟩
  obtain ⟨σ2, σ3, e2, t3, w3, x3, hS3, hn3⟩ := w1.var 104 [.int .i64 0, .int .i64 0, .int .i64 0] domV rfl (by intro v hv; simp at hv; rcases hv with rfl | rfl | rfl <;> rfl)
  obtain ⟨v', hcut, hv3, hbl⟩ := (hc.same w3.same nofun).take (kk := .i64) (t := 100) Try.underlying100 Try.size_108 (hv.same w3.same nofun) (j := min L.length 60) (by omega)
  have hmin : (if (60 : Int) < (L.length : Int) then (60 : Int) else (L.length : Int)) = ((min L.length 60 : Nat) : Int) := by split <;> omega
  obtain ⟨σ4, h4⟩ : ∃ σ4, (σ3.new (.map [] 0 false)).2 = σ4 := ⟨_, rfl⟩
  obtain ⟨σ5, h5⟩ : ∃ σ5, (σ4.new (.map [] 0 false)).2 = σ5 := ⟨_, rfl⟩
  obtain ⟨a1, c1, rfl⟩ := hv3.len
  have hLl : (L.take (min L.length 60)).length ≤ 60 := by rw [List.length_take]; omega
  have hv' : SlR σ 4 encSn (.slice a1 (L.take (min L.length 60)).length c1) (L.take (min L.length 60)) := by
    rcases hv with ⟨_, _, _, rfl⟩ | ⟨b, o, cap, e, hb, _⟩
    · exact .inl ⟨_, _, rfl, rfl⟩
    · refine SlR.back hv3 w3.same fun c hc => ?_
      have := hbl c hc
      rw [e] at this
      simp [blks] at this
      omega
  generalize L.take (min L.length 60) = L' at *
  have hS4 : Same σ3 σ4 [] := by rw [← h4]; exact .new _ _
  have hS5 : Same σ4 σ5 [] := by rw [← h5]; exact .new _ _
  have hn4 : σ4.next = σ3.next + 1 := by rw [← h4]; rfl
  have hn5 : σ5.next = σ4.next + 1 := by rw [← h5]; rfl
  have m4 : MapK kf σ4 σ3.next (fun _ => none) := by rw [← h4]; exact MapK.new kf σ3
  have m5 : MapK kf σ5 σ4.next (fun _ => none) := by rw [← h5]; exact MapK.new kf σ4
  have hlo := w3.h.tab.low
  have hso := w3.h.obj.1
  have hsn := w3.same.next
  have hs1n := w1.same.next
  have W5 : Wl σ σ5 s tp F [] age σ3.next σ4.next σ1.next (fun _ => none) :=
    ⟨(w3.step hS4).step hS5, ⟨m4.same hS5 (by omega) nofun, by omega, by omega, fun q => by have := hlo _ q; omega, by omega⟩, ⟨m5, by omega, by omega, fun q => by have := hlo _ q; omega, by omega⟩, (x3.step hS4).step hS5, by omega, by omega, by omega⟩
  simp (maxSteps := 2000000) only [B0, B1, B2, B3, B4, B5, B6, B7, Gd, extV, Nat.reduceLT, Nat.reduceEqDiff, Nat.reduceBEq, Nat.reduceAdd, Nat.reduceSub, Nat.reduceMul, ↓reduceIte, reduceCtorEq, if_true, if_false, ite_true, ite_false, Int.reduceLT, Int.reduceLE, ptr, callV_func Try.enters_64, allocV_zero Try.zero_104, Try.st_104, Try.len_100, Try.ia_100, Try.ld_108, allocV_zero Try.zero_108, Try.st_108, Try.fa_108_3, Try.ld_5, callV_func Try.enters_65, Try.fa_108_0, Try.fa_108_1, allocV_zero Try.zero_111, Try.st_111, Try.ld_111, callV_func Try.enters_66, Try.ia_111, Try.ld_3, Try.ia_104, callV_func Try.enters_68, Try.fa_108_2, callV_func Try.enters_67, Try.ld_104, callV_func Try.enters_69, allocV_zero Try.zero_120, Try.st_120, Try.fa_120_2, Try.fa_120_3, Try.ld_2, Try.fa_120_4, Try.ld_4, callV_func Try.enters_70, Int.reduceEq,  b104,  e2,  t3,  Value.cells,  List.size_toArray,  min_int,  hmin,  hcut,  aop_makeMap,  h4,  h5, rs_tmp (show Try.f10.results = #[.tmp 4] from rfl)]
  refine W_blk_cut (fun fr σ' => ∃ (t : Tr Value), fr = ⟨197, t⟩ ∧ Same σ σ' []) ?_ ?_
  · refine W_inv (fun k fr σ' => ∃ (t : Tr Value) (i : Nat) (F : List Nat) (T : List E) (g : Known) (now : Int), fr = ⟨197, t⟩ ∧ t.get 5 = some (pt s) ∧ t.get 7 = some (pt σ1.next) ∧ t.get 8 = some (.int .i64 now) ∧ t.get 9 = some (.map (some σ3.next)) ∧ t.get 10 = some (.map (some σ4.next)) ∧ t.get 46 = some (.slice a1 L'.length c1) ∧ t.get 47 = some (.int .i64 (L'.length : Int)) ∧ t.get 48 = some (.int .i64 (i : Int)) ∧ k + i = L'.length ∧
        Wl σ σ' s tp F T age σ3.next σ4.next σ1.next g ∧ Lst T g age now i ∧ 0 ≤ now ∧ now ≤ 7 * i ∧ ∀ b q, g b = some q → 0 ≤ q.1 ∧ q.1 ≤ now) L'.length (by omega)
      ⟨_, 0, F, _, _, 0, rfl, by simp [get_put], by simp [get_put], by simp [get_put], by simp [get_put], by simp [get_put], by simp [get_put], by simp [get_put], by simp [get_put], rfl, W5, ⟨fun w d _ _ => rfl, nofun, by simp⟩, by omega, by omega, nofun⟩ ?_
    clear W5 m4 m5 h1 hF1
    rintro k fr σ6 ⟨t, i, F, T, g, now, rfl, t5, t7, t8, t9, t10, t46, t47, t48, hk, W6, hL, hn0, hn1, hgb⟩
    by_cases hlt : i < L'.length
    · have hx := List.getElem?_eq_getElem hlt
      generalize L'[i] = x at hx
      obtain ⟨bb, o, cap, e, hb, hld⟩ := hv'.at_ hx
      injection e with e _ e3
      subst e e3
      have hld6 : ldCells σ6 bb (o + i * 4) 4 = some (encSn x) := by rw [W6.w.same.ldCells hb nofun]; exact hld
      obtain ⟨who, dmn, prt, lat⟩ := x
      have hlt' : ((i : Int) < (L'.length : Int)) = True := eq_true (by omega)
      have hw1 : IntKind.i64.wrap ((i : Int) + 1) = ((i + 1 : Nat) : Int) := wrap64 (by omega) (by omega)
      obtain ⟨σ7, σ8, e7, t8', W8, x8, hS8, _, nx1, nx2⟩ := W6.var 108 [.int .u8 0, .int .u8 0, .int .u8 0, .int .u8 0] (encSn (who, dmn, prt, lat)) rfl (encSnOk.single _)
      simp only [encSn] at hld6 t8' x8
      have y3 := x8.v.ld (o := 3) rfl
      have hwl : IntKind.i64.wrap ((lat % 8 : Nat) : Int) = ((lat % 8 : Nat) : Int) := wrap64 (by omega) (by omega)
      have hwn : IntKind.i64.wrap (now + ((lat % 8 : Nat) : Int)) = now + ((lat % 8 : Nat) : Int) := wrap64 (by omega) (by omega)
      have hwr : IntKind.i64.wrap ((prt % 4 : Nat) : Int) = ((prt % 4 : Nat) : Int) := wrap64 (by omega) (by omega)
      have hww : IntKind.i64.wrap ((who % 8 : Nat) : Int) = ((who % 8 : Nat) : Int) := wrap64 (by omega) (by omega)
      have hwd : IntKind.i64.wrap ((dmn % 3 : Nat) : Int) = ((dmn % 3 : Nat) : Int) := wrap64 (by omega) (by omega)
      simp (maxSteps := 2000000) only [B0, B1, B2, B3, B4, B5, B6, B7, Gd, extV, Nat.reduceLT, Nat.reduceEqDiff, Nat.reduceBEq, Nat.reduceAdd, Nat.reduceSub, Nat.reduceMul, ↓reduceIte, reduceCtorEq, if_true, if_false, ite_true, ite_false, Int.reduceLT, Int.reduceLE, ptr, callV_func Try.enters_64, allocV_zero Try.zero_104, Try.st_104, Try.len_100, Try.ia_100, Try.ld_108, allocV_zero Try.zero_108, Try.st_108, Try.fa_108_3, Try.ld_5, callV_func Try.enters_65, Try.fa_108_0, Try.fa_108_1, allocV_zero Try.zero_111, Try.st_111, Try.ld_111, callV_func Try.enters_66, Try.ia_111, Try.ld_3, Try.ia_104, callV_func Try.enters_68, Try.fa_108_2, callV_func Try.enters_67, Try.ld_104, callV_func Try.enters_69, allocV_zero Try.zero_120, Try.st_120, Try.fa_120_2, Try.fa_120_3, Try.ld_2, Try.fa_120_4, Try.ld_4, callV_func Try.enters_70, t5,  t7,  t8,  t9,  t10,  t46,  t47,  t48,  hlt',  hlt,  hld6,  e7,  t8',  Value.cells,  List.size_toArray,  y3,  rem8,  conv_int Try.underlying5 Try.underlying2,  hwl,  hwn, rs_tmp (show Try.f10.results = #[.tmp 4] from rfl)]
      obtain ⟨now', hnow'⟩ : ∃ now' : Int, now + ((lat % 8 : Nat) : Int) = now' := ⟨_, rfl⟩
      have hnn : now ≤ now' ∧ now' ≤ now + 7 := by omega
      rw [hnow']
      refine ltick_run f.toFreeL W8.w.h now' (by omega) fun σ9 v9 h9 hv9 hb9 hS9 => ?_
      have W9 := W8.call h9 (fun b hb => .inl hb) hS9
      have x9 := x8.call (fun b hb => .inl hb) hS9
      have hL9 := hL.tick W8.w.h.tab.ks hnn.1
      obtain ⟨σ10, σ11, e10, t11', W11, x11, hS11, hn11, nk1, nk2⟩ := W9.var 111 [.int .i64 0, .int .i64 0] [.int .i64 ((who % 8 : Nat) : Int), .int .i64 ((dmn % 3 : Nat) : Int)] rfl (by intro v hv; simp at hv; rcases hv with rfl | rfl <;> rfl)
      have x9' := x9.step hS11
      have z0 := x9.v.ld (o := 0) rfl
      have z1 := x9.v.ld (o := 1) rfl
      have u0 := x9'.v.ld (o := 0) rfl
      have u2 := x9'.v.ld (o := 2) rfl
      have k11 : ldCells σ11 σ9.next 0 2 = some [.int .i64 ((who % 8 : Nat) : Int), .int .i64 ((dmn % 3 : Nat) : Int)] := x11.v.ldCells
      have hlk := W11.p.mp.look keyL (t := 106) Try.underlying106 Try.zero_3 (who % 8, dmn % 3) true
      have hlk1 := W11.l.mp.look keyL (t := 105) Try.underlying105 Try.zero_2 (who % 8, dmn % 3) false
      simp only [if_true, Bool.false_eq_true, if_false] at hlk hlk1
      simp (maxSteps := 2000000) only [B0, B1, B2, B3, B4, B5, B6, B7, Gd, extV, Nat.reduceLT, Nat.reduceEqDiff, Nat.reduceBEq, Nat.reduceAdd, Nat.reduceSub, Nat.reduceMul, ↓reduceIte, reduceCtorEq, if_true, if_false, ite_true, ite_false, Int.reduceLT, Int.reduceLE, ptr, callV_func Try.enters_64, allocV_zero Try.zero_104, Try.st_104, Try.len_100, Try.ia_100, Try.ld_108, allocV_zero Try.zero_108, Try.st_108, Try.fa_108_3, Try.ld_5, callV_func Try.enters_65, Try.fa_108_0, Try.fa_108_1, allocV_zero Try.zero_111, Try.st_111, Try.ld_111, callV_func Try.enters_66, Try.ia_111, Try.ld_3, Try.ia_104, callV_func Try.enters_68, Try.fa_108_2, callV_func Try.enters_67, Try.ld_104, callV_func Try.enters_69, allocV_zero Try.zero_120, Try.st_120, Try.fa_120_2, Try.fa_120_3, Try.ld_2, Try.fa_120_4, Try.ld_4, callV_func Try.enters_70, z0,  z1,  rem8,  rem3,  conv_int Try.underlying5 Try.underlying3,  hww,  hwd,  bld111,  e10,  t11',  Value.cells,  List.size_toArray,  t5,  t7,  t8,  t9,  t10,  k11,  hlk, rs_tmp (show Try.f10.results = #[.tmp 4] from rfl)]
      have hd3 : dmn % 3 < 3 := Nat.mod_lt _ (by omega)
      have hw8 : who % 8 < 8 := Nat.mod_lt _ (by omega)
      refine W_cut (fun fr' σ' => σ11 = σ' ∧ ∃ (t' : Tr Value), fr' = ⟨197, t'⟩ ∧ t'.get 16 = some (.bool (liveE g age now' (who % 8) (dmn % 3)).isSome) ∧ t'.get 14 = some ((portV g (who % 8, dmn % 3)).getD (.int .i64 0)) ∧ t'.get 5 = some (pt s) ∧ t'.get 7 = some (pt σ1.next) ∧ t'.get 8 = some (.int .i64 now') ∧ t'.get 9 = some (.map (some σ3.next)) ∧ t'.get 10 = some (.map (some σ4.next)) ∧ t'.get 12 = some (pt σ6.next) ∧ t'.get 13 = some (pt σ9.next) ∧ t'.get 46 = some (.slice (some ⟨bb, o, none⟩) L'.length c1) ∧ t'.get 47 = some (.int .i64 (L'.length : Int)) ∧ t'.get 48 = some (.int .i64 (i : Int))) ?_ ?_
      · cases hg : g (who % 8, dmn % 3) with
        | none =>
          have hp1 : (portV g (who % 8, dmn % 3)).isSome = false := by simp [portV, hg]
          have hl1 : (liveE g age now' (who % 8) (dmn % 3)).isSome = false := by simp [liveE, hg]
          rw [hl1]
          refine Eq.mpr (W_retold (ps := [(6, 3), (6, 4)]) (by kernel_rfl) (by kernel_rfl) (by simp)) ?_
          simp (maxSteps := 2000000) only [B0, B1, B2, B3, B4, B5, B6, B7, Gd, extV, Nat.reduceLT, Nat.reduceEqDiff, Nat.reduceBEq, Nat.reduceAdd, Nat.reduceSub, Nat.reduceMul, ↓reduceIte, reduceCtorEq, if_true, if_false, ite_true, ite_false, Int.reduceLT, Int.reduceLE, ptr, callV_func Try.enters_64, allocV_zero Try.zero_104, Try.st_104, Try.len_100, Try.ia_100, Try.ld_108, allocV_zero Try.zero_108, Try.st_108, Try.fa_108_3, Try.ld_5, callV_func Try.enters_65, Try.fa_108_0, Try.fa_108_1, allocV_zero Try.zero_111, Try.st_111, Try.ld_111, callV_func Try.enters_66, Try.ia_111, Try.ld_3, Try.ia_104, callV_func Try.enters_68, Try.fa_108_2, callV_func Try.enters_67, Try.ld_104, callV_func Try.enters_69, allocV_zero Try.zero_120, Try.st_120, Try.fa_120_2, Try.fa_120_3, Try.ld_2, Try.fa_120_4, Try.ld_4, callV_func Try.enters_70, hp1,  t5,  t7,  t8,  t9,  t10,  k11,  wanted_g (P := Try.prog),  wantB_tt,  wantB_ff,  wantB_tf,  wantB_ft,  wantB_un,  Bool.false_eq_true,  false_implies,  RetAt_mkg,  RetAt_lastg, rs_tmp (show Try.f10.results = #[.tmp 4] from rfl)]
          exact ⟨_, _, rfl, rfl, _, rfl, by simp [get_put], by simp [get_put], by simp [get_put, t5], by simp [get_put, t7], by simp [get_put, t8], by simp [get_put, t9], by simp [get_put, t10], by simp [get_put], by simp [get_put], by simp [get_put, t46], by simp [get_put, t47], by simp [get_put, t48]⟩
        | some q =>
          have hp1 : (portV g (who % 8, dmn % 3)).isSome = true := by simp [portV, hg]
          have hq := hgb _ _ hg
          have hws : IntKind.i64.wrap (q.1 + age) = q.1 + age := wrap64 (by omega) (by omega)
          have hl2 : (lastV g (who % 8, dmn % 3)).getD (.int .i64 0) = .int .i64 q.1 := by simp [lastV, hg]
          rw [hl2] at hlk1
          by_cases hlv : now' < q.1 + age
          · have hl1 : (liveE g age now' (who % 8) (dmn % 3)).isSome = true := by simp [liveE, hg, hlv]
            have hlv' := eq_true hlv
            rw [hl1]
            refine Eq.mpr (W_retold (ps := [(6, 3), (6, 4)]) (by kernel_rfl) (by kernel_rfl) (by simp)) ?_
            simp (maxSteps := 2000000) only [B0, B1, B2, B3, B4, B5, B6, B7, Gd, extV, Nat.reduceLT, Nat.reduceEqDiff, Nat.reduceBEq, Nat.reduceAdd, Nat.reduceSub, Nat.reduceMul, ↓reduceIte, reduceCtorEq, if_true, if_false, ite_true, ite_false, Int.reduceLT, Int.reduceLE, ptr, callV_func Try.enters_64, allocV_zero Try.zero_104, Try.st_104, Try.len_100, Try.ia_100, Try.ld_108, allocV_zero Try.zero_108, Try.st_108, Try.fa_108_3, Try.ld_5, callV_func Try.enters_65, Try.fa_108_0, Try.fa_108_1, allocV_zero Try.zero_111, Try.st_111, Try.ld_111, callV_func Try.enters_66, Try.ia_111, Try.ld_3, Try.ia_104, callV_func Try.enters_68, Try.fa_108_2, callV_func Try.enters_67, Try.ld_104, callV_func Try.enters_69, allocV_zero Try.zero_120, Try.st_120, Try.fa_120_2, Try.fa_120_3, Try.ld_2, Try.fa_120_4, Try.ld_4, callV_func Try.enters_70, hp1,  t5,  t7,  t8,  t9,  t10,  k11,  hlk1,  lage_run f.toFreeL W11.w.h,  hws,  hlv',  wanted_g (P := Try.prog),  wantB_tt,  wantB_ff,  wantB_tf,  wantB_ft,  wantB_un,  Bool.false_eq_true,  false_implies,  RetAt_mkg,  RetAt_lastg,  same_kf,  implies_true, rs_tmp (show Try.f10.results = #[.tmp 4] from rfl)]
            exact ⟨_, _, rfl, rfl, _, rfl, by simp [get_put], by simp [get_put], by simp [get_put, t5], by simp [get_put, t7], by simp [get_put, t8], by simp [get_put, t9], by simp [get_put, t10], by simp [get_put], by simp [get_put], by simp [get_put, t46], by simp [get_put, t47], by simp [get_put, t48]⟩
          · have hl1 : (liveE g age now' (who % 8) (dmn % 3)).isSome = false := by simp [liveE, hg, hlv]
            have hlv' := eq_false hlv
            rw [hl1]
            refine Eq.mpr (W_retold (ps := [(6, 3), (6, 4)]) (by kernel_rfl) (by kernel_rfl) (by simp)) ?_
            simp (maxSteps := 2000000) only [B0, B1, B2, B3, B4, B5, B6, B7, Gd, extV, Nat.reduceLT, Nat.reduceEqDiff, Nat.reduceBEq, Nat.reduceAdd, Nat.reduceSub, Nat.reduceMul, ↓reduceIte, reduceCtorEq, if_true, if_false, ite_true, ite_false, Int.reduceLT, Int.reduceLE, ptr, callV_func Try.enters_64, allocV_zero Try.zero_104, Try.st_104, Try.len_100, Try.ia_100, Try.ld_108, allocV_zero Try.zero_108, Try.st_108, Try.fa_108_3, Try.ld_5, callV_func Try.enters_65, Try.fa_108_0, Try.fa_108_1, allocV_zero Try.zero_111, Try.st_111, Try.ld_111, callV_func Try.enters_66, Try.ia_111, Try.ld_3, Try.ia_104, callV_func Try.enters_68, Try.fa_108_2, callV_func Try.enters_67, Try.ld_104, callV_func Try.enters_69, allocV_zero Try.zero_120, Try.st_120, Try.fa_120_2, Try.fa_120_3, Try.ld_2, Try.fa_120_4, Try.ld_4, callV_func Try.enters_70, hp1,  t5,  t7,  t8,  t9,  t10,  k11,  hlk1,  lage_run f.toFreeL W11.w.h,  hws,  hlv',  wanted_g (P := Try.prog),  wantB_tt,  wantB_ff,  wantB_tf,  wantB_ft,  wantB_un,  Bool.false_eq_true,  false_implies,  RetAt_mkg,  RetAt_lastg,  same_kf,  implies_true, rs_tmp (show Try.f10.results = #[.tmp 4] from rfl)]
            exact ⟨_, _, rfl, rfl, _, rfl, by simp [get_put], by simp [get_put], by simp [get_put, t5], by simp [get_put, t7], by simp [get_put, t8], by simp [get_put, t9], by simp [get_put, t10], by simp [get_put], by simp [get_put], by simp [get_put, t46], by simp [get_put, t47], by simp [get_put, t48]⟩
      clear t5 t7 t8 t9 t10 t46 t47 t48
      rintro fr' σ' ⟨rfl, t, rfl, t16, t14, t5, t7, t8, t9, t10, t12, t13, t46, t47, t48⟩
      rw [KSeq_normal]
      have d11 := W11.d.v.ld (dom_at hd3)
      have k1 := x11.v.ld (o := 1) rfl
      simp (maxSteps := 2000000) only [B0, B1, B2, B3, B4, B5, B6, B7, Gd, extV, Nat.reduceLT, Nat.reduceEqDiff, Nat.reduceBEq, Nat.reduceAdd, Nat.reduceSub, Nat.reduceMul, ↓reduceIte, reduceCtorEq, if_true, if_false, ite_true, ite_false, Int.reduceLT, Int.reduceLE, ptr, callV_func Try.enters_64, allocV_zero Try.zero_104, Try.st_104, Try.len_100, Try.ia_100, Try.ld_108, allocV_zero Try.zero_108, Try.st_108, Try.fa_108_3, Try.ld_5, callV_func Try.enters_65, Try.fa_108_0, Try.fa_108_1, allocV_zero Try.zero_111, Try.st_111, Try.ld_111, callV_func Try.enters_66, Try.ia_111, Try.ld_3, Try.ia_104, callV_func Try.enters_68, Try.fa_108_2, callV_func Try.enters_67, Try.ld_104, callV_func Try.enters_69, allocV_zero Try.zero_120, Try.st_120, Try.fa_120_2, Try.fa_120_3, Try.ld_2, Try.fa_120_4, Try.ld_4, callV_func Try.enters_70, t5,  t7,  t8,  t12,  t13, rs_tmp (show Try.f10.results = #[.tmp 4] from rfl)]
      refine Eq.mpr (W_retold (ps := [(7, 2), (7, 4), (7, 9), (7, 11)]) (by kernel_rfl) (by kernel_rfl) (by simp)) ?_
      simp (maxSteps := 2000000) only [B0, B1, B2, B3, B4, B5, B6, B7, Gd, extV, Nat.reduceLT, Nat.reduceEqDiff, Nat.reduceBEq, Nat.reduceAdd, Nat.reduceSub, Nat.reduceMul, ↓reduceIte, reduceCtorEq, if_true, if_false, ite_true, ite_false, Int.reduceLT, Int.reduceLE, ptr, callV_func Try.enters_64, allocV_zero Try.zero_104, Try.st_104, Try.len_100, Try.ia_100, Try.ld_108, allocV_zero Try.zero_108, Try.st_108, Try.fa_108_3, Try.ld_5, callV_func Try.enters_65, Try.fa_108_0, Try.fa_108_1, allocV_zero Try.zero_111, Try.st_111, Try.ld_111, callV_func Try.enters_66, Try.ia_111, Try.ld_3, Try.ia_104, callV_func Try.enters_68, Try.fa_108_2, callV_func Try.enters_67, Try.ld_104, callV_func Try.enters_69, allocV_zero Try.zero_120, Try.st_120, Try.fa_120_2, Try.fa_120_3, Try.ld_2, Try.fa_120_4, Try.ld_4, callV_func Try.enters_70, t5,  t7,  t8,  t12,  t13,  k1,  hd3,  Nat.mul_one,  d11,  u0,  Nat.one_lt_two, rs_tmp (show Try.f10.results = #[.tmp 4] from rfl)]
      refine station_run (w := who) f.h68 fun σ12 hS12 => ?_
      have W12 := W11.step hS12
      have x12 := x9'.step hS12
      have y12 := x11.step hS12
      have d12 := W12.d.v.ld (dom_at hd3)
      have k2 := y12.v.ld (o := 1) rfl
      have v0 := x12.v.ld (o := 0) rfl
      have v2 := x12.v.ld (o := 2) rfl
      simp (maxSteps := 2000000) only [B0, B1, B2, B3, B4, B5, B6, B7, Gd, extV, Nat.reduceLT, Nat.reduceEqDiff, Nat.reduceBEq, Nat.reduceAdd, Nat.reduceSub, Nat.reduceMul, ↓reduceIte, reduceCtorEq, if_true, if_false, ite_true, ite_false, Int.reduceLT, Int.reduceLE, ptr, callV_func Try.enters_64, allocV_zero Try.zero_104, Try.st_104, Try.len_100, Try.ia_100, Try.ld_108, allocV_zero Try.zero_108, Try.st_108, Try.fa_108_3, Try.ld_5, callV_func Try.enters_65, Try.fa_108_0, Try.fa_108_1, allocV_zero Try.zero_111, Try.st_111, Try.ld_111, callV_func Try.enters_66, Try.ia_111, Try.ld_3, Try.ia_104, callV_func Try.enters_68, Try.fa_108_2, callV_func Try.enters_67, Try.ld_104, callV_func Try.enters_69, allocV_zero Try.zero_120, Try.st_120, Try.fa_120_2, Try.fa_120_3, Try.ld_2, Try.fa_120_4, Try.ld_4, callV_func Try.enters_70, t5,  t7,  t8,  t12,  t13,  k1,  k2,  hd3,  Nat.mul_one,  d11,  d12,  u0,  u2,  v0,  v2,  rem4,  conv_int Try.underlying5 Try.underlying3,  hwr, rs_tmp (show Try.f10.results = #[.tmp 4] from rfl)]
      refine lsee_run (d := dm (dmn % 3)) (p := ((prt % 4 : Nat) : Int)) (now := now') f.toFreeL W12.w.h (staw _ who dm_ok) (by omega) (by omega) (by omega) (by omega) fun σ13 F13 h13 hF13 hS13 => ?_
      have W13 := W12.call h13 hF13 hS13
      have x13 := x12.call hF13 hS13
      have y13 := y12.call hF13 hS13
      have hkw : kS (dm (dmn % 3)) (who % 8) = kS (dm (dmn % 3)) who := by unfold kS; rw [Nat.mod_mod]
      obtain ⟨hL13, htold⟩ := hL9.see W12.w.h.tab.ks (by omega) ha1.1 (by omega) (by omega) hw8 hd3 ((prt % 4 : Nat) : Int)
      rw [hkw] at hL13 htold
      generalize hR : seeT (restT T now') age (kS (dm (dmn % 3)) who) ((prt % 4 : Nat) : Int) now' = R at *
      rw [htold]
      generalize hE : liveE g age now' (who % 8) (dmn % 3) = E1 at *
      simp only [plainD_region, plainD_cons, plainD_seq, plainD_cond, plainD_block, plainD_loop, plainD_scope, plainD_skip, plainD_ret, plainD_exit, W_skip, W_ret, W_exit, W_ops_nil, W_ops, W_ops_guard, W_some, W_none, KSeq_normal, KSeq_exit, KSeq_ret, KBlk_normal, KBlk_ret, KBlk_exit, KReg_mk, KOp_mk, KRet_normal, KRet_ret, Wc_true, Wc_false, Gd, WGo_tt, WGo_ff, WGo_tf, WGo_ft, WGt_tt, WGt_ff, WGt_tf, WGt_ft, WGo_un, WGt_un, aop_move, aop_assign, aop_pick, aop_alloc, aop_box, aop_build, aop_load, aop_store, aop_nilCheck, aop_binOp, aop_unOp, aop_convert, aop_makeInterface, aop_makeFunc, aop_makeMap, aop_slice, aop_fieldAddr, aop_field, aop_indexAddr, aop_index, aop_lookup, aop_mapUpdate, aop_extract, aop_builtin, aop_call, aop_invoke, aop_typeAssert, aop_buildSlice, eval_tmp, eval_const, eval_func, put_none, put_mk, at_mk, get_put, get_args, withH_some, nilV_ptr, nilV_iface, pickV_true, pickV_false, loadV_ptr, extV, callV_func, allocV_zero, List.append_eq, List.map_cons, List.map_nil, List.nil_append, List.cons_append, List.append_nil, List.getElem?_cons_zero, List.getElem?_cons_succ, List.getElem?_nil, List.length_cons, List.length_nil, Option.map_some, Option.map_none, Option.getD_some, Option.getD_none, Option.bind_some, Option.some.injEq, Nat.zero_add, Nat.add_zero, Nat.reduceLT, Nat.reduceEqDiff, Nat.reduceBEq, Nat.reduceAdd, Nat.reduceSub, Nat.reduceMul, ↓reduceIte, reduceCtorEq, if_true, if_false, ite_true, ite_false, W_tr_nil, W_tr, W_tr_guard, KTr_mk, KRe_mk, W_loopN, KLoop_normal, KLoop_exit, KLoop_ret, Int.cast_ofNat_Int, Int.reduceLT, Int.reduceLE, Int.lt_irrefl, decide_true, decide_false, Bool.not_true, Bool.not_false, retold_nil, retold_cons, RetAt_mk, RetAt_last, retells_eq, sameV_int, sameV_string, sameV_bool, sameV_ptr, sameV_map, sameV_slice, and_true, true_and, ptr, List.getElem?_toArray, loadC_ptr, KInv_exit, KInv_ret, bin_quo2, wrap64_m1, wrap64_half, idx_zero, idx_one, idx_cast, wrap64_1, wrap64_2, bin_lss, bin_leq, bin_gtr, bin_geq, bin_ieql, bin_ineq, bin_add, bin_sub, bin_mul, bin_slss, bin_sgtr, bin_seql, bin_sneq, un_not, Array.toList_map, callV_func Try.enters_64, allocV_zero Try.zero_104, Try.st_104, Try.len_100, Try.ia_100, Try.ld_108, allocV_zero Try.zero_108, Try.st_108, Try.fa_108_3, Try.ld_5, callV_func Try.enters_65, Try.fa_108_0, Try.fa_108_1, allocV_zero Try.zero_111, Try.st_111, Try.ld_111, callV_func Try.enters_66, Try.ia_111, Try.ld_3, Try.ia_104, callV_func Try.enters_68, Try.fa_108_2, callV_func Try.enters_67, Try.ld_104, callV_func Try.enters_69, allocV_zero Try.zero_120, Try.st_120, Try.fa_120_2, Try.fa_120_3, Try.ld_2, Try.fa_120_4, Try.ld_4, callV_func Try.enters_70, t5,  t7,  t8,  t12,  t13,  k1,  k2,  hd3,  Nat.mul_one,  d11,  d12,  u0,  u2,  v0,  v2,  rem4,  conv_int Try.underlying5 Try.underlying3,  hwr]
      rw [W_seq, W_region]
      simp only [plainD_region, plainD_cons, plainD_seq, plainD_cond, plainD_block, plainD_loop, plainD_scope, plainD_skip, plainD_ret, plainD_exit, W_skip, W_ret, W_exit, W_ops_nil, W_ops, W_ops_guard, W_some, W_none, KSeq_normal, KSeq_exit, KSeq_ret, KBlk_normal, KBlk_ret, KBlk_exit, KReg_mk, KOp_mk, KRet_normal, KRet_ret, Wc_true, Wc_false, Gd, WGo_tt, WGo_ff, WGo_tf, WGo_ft, WGt_tt, WGt_ff, WGt_tf, WGt_ft, WGo_un, WGt_un, aop_move, aop_assign, aop_pick, aop_alloc, aop_box, aop_build, aop_load, aop_store, aop_nilCheck, aop_binOp, aop_unOp, aop_convert, aop_makeInterface, aop_makeFunc, aop_makeMap, aop_slice, aop_fieldAddr, aop_field, aop_indexAddr, aop_index, aop_lookup, aop_mapUpdate, aop_extract, aop_builtin, aop_call, aop_invoke, aop_typeAssert, aop_buildSlice, eval_tmp, eval_const, eval_func, put_none, put_mk, at_mk, get_put, get_args, withH_some, nilV_ptr, nilV_iface, pickV_true, pickV_false, loadV_ptr, extV, callV_func, allocV_zero, List.append_eq, List.map_cons, List.map_nil, List.nil_append, List.cons_append, List.append_nil, List.getElem?_cons_zero, List.getElem?_cons_succ, List.getElem?_nil, List.length_cons, List.length_nil, Option.map_some, Option.map_none, Option.getD_some, Option.getD_none, Option.bind_some, Option.some.injEq, Nat.zero_add, Nat.add_zero, Nat.reduceLT, Nat.reduceEqDiff, Nat.reduceBEq, Nat.reduceAdd, Nat.reduceSub, Nat.reduceMul, ↓reduceIte, reduceCtorEq, if_true, if_false, ite_true, ite_false, W_tr_nil, W_tr, W_tr_guard, KTr_mk, KRe_mk, W_loopN, KLoop_normal, KLoop_exit, KLoop_ret, Int.cast_ofNat_Int, Int.reduceLT, Int.reduceLE, Int.lt_irrefl, decide_true, decide_false, Bool.not_true, Bool.not_false, retold_nil, retold_cons, RetAt_mk, RetAt_last, retells_eq, sameV_int, sameV_string, sameV_bool, sameV_ptr, sameV_map, sameV_slice, and_true, true_and, ptr, List.getElem?_toArray, loadC_ptr, KInv_exit, KInv_ret, bin_quo2, wrap64_m1, wrap64_half, idx_zero, idx_one, idx_cast, wrap64_1, wrap64_2, bin_lss, bin_leq, bin_gtr, bin_geq, bin_ieql, bin_ineq, bin_add, bin_sub, bin_mul, bin_slss, bin_sgtr, bin_seql, bin_sneq, un_not, Array.toList_map, callV_func Try.enters_64, allocV_zero Try.zero_104, Try.st_104, Try.len_100, Try.ia_100, Try.ld_108, allocV_zero Try.zero_108, Try.st_108, Try.fa_108_3, Try.ld_5, callV_func Try.enters_65, Try.fa_108_0, Try.fa_108_1, allocV_zero Try.zero_111, Try.st_111, Try.ld_111, callV_func Try.enters_66, Try.ia_111, Try.ld_3, Try.ia_104, callV_func Try.enters_68, Try.fa_108_2, callV_func Try.enters_67, Try.ld_104, callV_func Try.enters_69, allocV_zero Try.zero_120, Try.st_120, Try.fa_120_2, Try.fa_120_3, Try.ld_2, Try.fa_120_4, Try.ld_4, callV_func Try.enters_70, KBlk_normal]
      rw [W_seq]
      obtain ⟨told, htd⟩ : ∃ told : Int, toldE E1 ((prt % 4 : Nat) : Int) = told := ⟨_, rfl⟩
      rw [htd]
      have x13p := x13.v.ld (o := 2) rfl
      refine W_cut (fun fr' σ' => σ13 = σ' ∧ ∃ (t' : Tr Value), fr' = ⟨197, t'⟩ ∧ t'.get 19 = some (.int .i64 told) ∧ t'.get 17 = some (.int .i64 told) ∧ t'.get 18 = some (.int .i64 0) ∧ t'.get 5 = some (pt s) ∧ t'.get 7 = some (pt σ1.next) ∧ t'.get 8 = some (.int .i64 now') ∧ t'.get 9 = some (.map (some σ3.next)) ∧ t'.get 10 = some (.map (some σ4.next)) ∧ t'.get 12 = some (pt σ6.next) ∧ t'.get 13 = some (pt σ9.next) ∧ t'.get 46 = some (.slice (some ⟨bb, o, none⟩) L'.length c1) ∧ t'.get 47 = some (.int .i64 (L'.length : Int)) ∧ t'.get 48 = some (.int .i64 (i : Int))) ?_ ?_
      · cases hE1 : E1 with
        | none =>
          rw [hE1] at t16 htd
          simp only [toldE] at htd
          subst htd
          simp (maxSteps := 2000000) only [B0, B1, B2, B3, B4, B5, B6, B7, Gd, extV, Nat.reduceLT, Nat.reduceEqDiff, Nat.reduceBEq, Nat.reduceAdd, Nat.reduceSub, Nat.reduceMul, ↓reduceIte, reduceCtorEq, if_true, if_false, ite_true, ite_false, Int.reduceLT, Int.reduceLE, ptr, callV_func Try.enters_64, allocV_zero Try.zero_104, Try.st_104, Try.len_100, Try.ia_100, Try.ld_108, allocV_zero Try.zero_108, Try.st_108, Try.fa_108_3, Try.ld_5, callV_func Try.enters_65, Try.fa_108_0, Try.fa_108_1, allocV_zero Try.zero_111, Try.st_111, Try.ld_111, callV_func Try.enters_66, Try.ia_111, Try.ld_3, Try.ia_104, callV_func Try.enters_68, Try.fa_108_2, callV_func Try.enters_67, Try.ld_104, callV_func Try.enters_69, allocV_zero Try.zero_120, Try.st_120, Try.fa_120_2, Try.fa_120_3, Try.ld_2, Try.fa_120_4, Try.ld_4, callV_func Try.enters_70, t5,  t7,  t8,  t12,  t13,  t14,  t16,  Option.isSome_none, rs_tmp (show Try.f10.results = #[.tmp 4] from rfl)]
          exact ⟨_, _, rfl, rfl, _, rfl, by simp [get_put], by simp [get_put], by simp [get_put], by simp [get_put, t5], by simp [get_put, t7], by simp [get_put, t8], by simp [get_put, t9], by simp [get_put, t10], by simp [get_put, t12], by simp [get_put, t13], by simp [get_put, t46], by simp [get_put, t47], by simp [get_put, t48]⟩
        | some e =>
          rw [hE1] at t16 htd
          simp only [toldE] at htd
          have hpv : (portV g (who % 8, dmn % 3)).getD (.int .i64 0) = .int .i64 e.2.1 := by
            rw [hE1] at hE
            unfold liveE at hE
            cases hg : g (who % 8, dmn % 3) with
            | none => rw [hg] at hE; cases hE
            | some q =>
              rw [hg] at hE
              simp only at hE
              split at hE
              · rw [← Option.some.inj hE]; simp [portV, hg]
              · cases hE
          rw [hpv] at t14
          by_cases hpp : e.2.1 = ((prt % 4 : Nat) : Int)
          · have hpp' := eq_true hpp
            rw [if_pos hpp] at htd
            subst htd
            simp (maxSteps := 2000000) only [B0, B1, B2, B3, B4, B5, B6, B7, Gd, extV, Nat.reduceLT, Nat.reduceEqDiff, Nat.reduceBEq, Nat.reduceAdd, Nat.reduceSub, Nat.reduceMul, ↓reduceIte, reduceCtorEq, if_true, if_false, ite_true, ite_false, Int.reduceLT, Int.reduceLE, ptr, callV_func Try.enters_64, allocV_zero Try.zero_104, Try.st_104, Try.len_100, Try.ia_100, Try.ld_108, allocV_zero Try.zero_108, Try.st_108, Try.fa_108_3, Try.ld_5, callV_func Try.enters_65, Try.fa_108_0, Try.fa_108_1, allocV_zero Try.zero_111, Try.st_111, Try.ld_111, callV_func Try.enters_66, Try.ia_111, Try.ld_3, Try.ia_104, callV_func Try.enters_68, Try.fa_108_2, callV_func Try.enters_67, Try.ld_104, callV_func Try.enters_69, allocV_zero Try.zero_120, Try.st_120, Try.fa_120_2, Try.fa_120_3, Try.ld_2, Try.fa_120_4, Try.ld_4, callV_func Try.enters_70, t5,  t7,  t8,  t12,  t13,  t14,  t16,  Option.isSome_some,  x13p,  rem4,  conv_int Try.underlying5 Try.underlying3,  hwr,  hpp', rs_tmp (show Try.f10.results = #[.tmp 4] from rfl)]
            exact ⟨_, _, rfl, rfl, _, rfl, by simp [get_put], by simp [get_put], by simp [get_put], by simp [get_put, t5], by simp [get_put, t7], by simp [get_put, t8], by simp [get_put, t9], by simp [get_put, t10], by simp [get_put, t12], by simp [get_put, t13], by simp [get_put, t46], by simp [get_put, t47], by simp [get_put, t48]⟩
          · have hpp' := eq_false hpp
            rw [if_neg hpp] at htd
            subst htd
            simp (maxSteps := 2000000) only [B0, B1, B2, B3, B4, B5, B6, B7, Gd, extV, Nat.reduceLT, Nat.reduceEqDiff, Nat.reduceBEq, Nat.reduceAdd, Nat.reduceSub, Nat.reduceMul, ↓reduceIte, reduceCtorEq, if_true, if_false, ite_true, ite_false, Int.reduceLT, Int.reduceLE, ptr, callV_func Try.enters_64, allocV_zero Try.zero_104, Try.st_104, Try.len_100, Try.ia_100, Try.ld_108, allocV_zero Try.zero_108, Try.st_108, Try.fa_108_3, Try.ld_5, callV_func Try.enters_65, Try.fa_108_0, Try.fa_108_1, allocV_zero Try.zero_111, Try.st_111, Try.ld_111, callV_func Try.enters_66, Try.ia_111, Try.ld_3, Try.ia_104, callV_func Try.enters_68, Try.fa_108_2, callV_func Try.enters_67, Try.ld_104, callV_func Try.enters_69, allocV_zero Try.zero_120, Try.st_120, Try.fa_120_2, Try.fa_120_3, Try.ld_2, Try.fa_120_4, Try.ld_4, callV_func Try.enters_70, t5,  t7,  t8,  t12,  t13,  t14,  t16,  Option.isSome_some,  x13p,  rem4,  conv_int Try.underlying5 Try.underlying3,  hwr,  hpp', rs_tmp (show Try.f10.results = #[.tmp 4] from rfl)]
            exact ⟨_, _, rfl, rfl, _, rfl, by simp [get_put], by simp [get_put], by simp [get_put], by simp [get_put, t5], by simp [get_put, t7], by simp [get_put, t8], by simp [get_put, t9], by simp [get_put, t10], by simp [get_put, t12], by simp [get_put, t13], by simp [get_put, t46], by simp [get_put, t47], by simp [get_put, t48]⟩
      clear t5 t7 t8 t9 t10 t46 t47 t48 t12 t13 t14 t16
      rintro fr' σ' ⟨rfl, t, rfl, t19, t17, t18, t5, t7, t8, t9, t10, t12, t13, t46, t47, t48⟩
      rw [KSeq_normal]
      obtain ⟨o1, o2, p1, p2, W15, hSm1, hSm2⟩ := W13.put (who % 8, dmn % 3) now' ((prt % 4 : Nat) : Int)
      have y13' := y13.other hSm1 (by simp; exact nk1)
      have x13' := x13.other hSm1 (by simp; exact nx1)
      have k13 : ldCells σ13 σ9.next 0 2 = some [.int .i64 ((who % 8 : Nat) : Int), .int .i64 ((dmn % 3 : Nat) : Int)] := y13.v.ldCells
      have k13' : ldCells (σ13.set σ3.next o1) σ9.next 0 2 = some [.int .i64 ((who % 8 : Nat) : Int), .int .i64 ((dmn % 3 : Nat) : Int)] := y13'.v.ldCells
      have x13q := x13'.v.ld (o := 2) rfl
      simp (maxSteps := 2000000) only [B0, B1, B2, B3, B4, B5, B6, B7, Gd, extV, Nat.reduceLT, Nat.reduceEqDiff, Nat.reduceBEq, Nat.reduceAdd, Nat.reduceSub, Nat.reduceMul, ↓reduceIte, reduceCtorEq, if_true, if_false, ite_true, ite_false, Int.reduceLT, Int.reduceLE, ptr, callV_func Try.enters_64, allocV_zero Try.zero_104, Try.st_104, Try.len_100, Try.ia_100, Try.ld_108, allocV_zero Try.zero_108, Try.st_108, Try.fa_108_3, Try.ld_5, callV_func Try.enters_65, Try.fa_108_0, Try.fa_108_1, allocV_zero Try.zero_111, Try.st_111, Try.ld_111, callV_func Try.enters_66, Try.ia_111, Try.ld_3, Try.ia_104, callV_func Try.enters_68, Try.fa_108_2, callV_func Try.enters_67, Try.ld_104, callV_func Try.enters_69, allocV_zero Try.zero_120, Try.st_120, Try.fa_120_2, Try.fa_120_3, Try.ld_2, Try.fa_120_4, Try.ld_4, callV_func Try.enters_70, t17,  t18,  t19,  t5,  t7,  t8,  t9,  t10,  t12,  t13,  eq_self,  Int.reduceEq, rs_tmp (show Try.f10.results = #[.tmp 4] from rfl)]
      refine Eq.mpr (W_retold (ps := [(9, 3), (9, 6), (9, 8)]) (by kernel_rfl) (by kernel_rfl) (by simp)) ?_
      simp (maxSteps := 2000000) only [B0, B1, B2, B3, B4, B5, B6, B7, Gd, extV, Nat.reduceLT, Nat.reduceEqDiff, Nat.reduceBEq, Nat.reduceAdd, Nat.reduceSub, Nat.reduceMul, ↓reduceIte, reduceCtorEq, if_true, if_false, ite_true, ite_false, Int.reduceLT, Int.reduceLE, ptr, callV_func Try.enters_64, allocV_zero Try.zero_104, Try.st_104, Try.len_100, Try.ia_100, Try.ld_108, allocV_zero Try.zero_108, Try.st_108, Try.fa_108_3, Try.ld_5, callV_func Try.enters_65, Try.fa_108_0, Try.fa_108_1, allocV_zero Try.zero_111, Try.st_111, Try.ld_111, callV_func Try.enters_66, Try.ia_111, Try.ld_3, Try.ia_104, callV_func Try.enters_68, Try.fa_108_2, callV_func Try.enters_67, Try.ld_104, callV_func Try.enters_69, allocV_zero Try.zero_120, Try.st_120, Try.fa_120_2, Try.fa_120_3, Try.ld_2, Try.fa_120_4, Try.ld_4, callV_func Try.enters_70, t17,  t18,  t19,  t5,  t7,  t8,  t9,  t10,  t12,  t13,  k13,  k13',  x13p,  x13q,  rem4,  conv_int Try.underlying5 Try.underlying3,  hwr,  p1,  p2,  same_kf, rs_tmp (show Try.f10.results = #[.tmp 4] from rfl)]
      have hgb' : ∀ b q, (fun b => if b = (who % 8, dmn % 3) then some (now', ((prt % 4 : Nat) : Int)) else g b) b = some q → 0 ≤ q.1 ∧ q.1 ≤ now' := fun b q hq => by
        simp only at hq
        split at hq
        · rw [← Option.some.inj hq]; exact ⟨by omega, Int.le_refl _⟩
        · have := hgb b q hq; omega
      generalize (fun b => if b = (who % 8, dmn % 3) then some (now', ((prt % 4 : Nat) : Int)) else g b) = g' at *
      generalize (σ13.set σ3.next o1).set σ4.next o2 = σ15 at *
      have hT15 := hL13
      refine W_blk_cut (fun fr' σ' => ∃ (t' : Tr Value), fr' = ⟨197, t'⟩ ∧ t'.get 5 = some (pt s) ∧ t'.get 7 = some (pt σ1.next) ∧ t'.get 8 = some (.int .i64 now') ∧ t'.get 9 = some (.map (some σ3.next)) ∧ t'.get 10 = some (.map (some σ4.next)) ∧ t'.get 46 = some (.slice (some ⟨bb, o, none⟩) L'.length c1) ∧ t'.get 47 = some (.int .i64 (L'.length : Int)) ∧ t'.get 48 = some (.int .i64 (i : Int)) ∧ Wl σ σ' s tp F13 R.1 age σ3.next σ4.next σ1.next g') ?_ ?_
      · refine W_inv (fun k' fr' σ' => ∃ (t' : Tr Value) (w : Nat), fr' = ⟨197, t'⟩ ∧ t'.get 130 = some (.int .u8 (w : Int)) ∧ t'.get 5 = some (pt s) ∧ t'.get 7 = some (pt σ1.next) ∧ t'.get 8 = some (.int .i64 now') ∧ t'.get 9 = some (.map (some σ3.next)) ∧ t'.get 10 = some (.map (some σ4.next)) ∧ t'.get 46 = some (.slice (some ⟨bb, o, none⟩) L'.length c1) ∧ t'.get 47 = some (.int .i64 (L'.length : Int)) ∧ t'.get 48 = some (.int .i64 (i : Int)) ∧ k' + w = 8 ∧ Wl σ σ' s tp F13 R.1 age σ3.next σ4.next σ1.next g') 8 (by omega)
          ⟨_, 0, rfl, by simp [get_put], by simp [get_put, t5], by simp [get_put, t7], by simp [get_put, t8], by simp [get_put, t9], by simp [get_put, t10], by simp [get_put, t46], by simp [get_put, t47], by simp [get_put, t48], rfl, W15⟩ ?_
        clear t5 t7 t8 t9 t10 t46 t47 t48 t12 t13 t17 t18 t19
        rintro k' fr' σ16 ⟨t, w, rfl, t130, t5, t7, t8, t9, t10, t46, t47, t48, hk', W16⟩
        by_cases hw : w < 8
        · have hw' : ((w : Int) < 8) = True := eq_true (by omega)
          have hwu : IntKind.u8.wrap ((w : Int) + 1) = ((w + 1 : Nat) : Int) := by
            rw [show (w : Int) + 1 = ((w + 1 : Nat) : Int) by omega, wrapU8, Nat.mod_eq_of_lt (by omega)]
          have hwi : IntKind.i64.wrap (w : Int) = (w : Int) := wrap64 (by omega) (by omega)
          have d16 : ldCells σ16 σ1.next 0 3 = some domV := W16.d.v.ldCells
          simp (maxSteps := 2000000) only [B0, B1, B2, B3, B4, B5, B6, B7, Gd, extV, Nat.reduceLT, Nat.reduceEqDiff, Nat.reduceBEq, Nat.reduceAdd, Nat.reduceSub, Nat.reduceMul, ↓reduceIte, reduceCtorEq, if_true, if_false, ite_true, ite_false, Int.reduceLT, Int.reduceLE, ptr, callV_func Try.enters_64, allocV_zero Try.zero_104, Try.st_104, Try.len_100, Try.ia_100, Try.ld_108, allocV_zero Try.zero_108, Try.st_108, Try.fa_108_3, Try.ld_5, callV_func Try.enters_65, Try.fa_108_0, Try.fa_108_1, allocV_zero Try.zero_111, Try.st_111, Try.ld_111, callV_func Try.enters_66, Try.ia_111, Try.ld_3, Try.ia_104, callV_func Try.enters_68, Try.fa_108_2, callV_func Try.enters_67, Try.ld_104, callV_func Try.enters_69, allocV_zero Try.zero_120, Try.st_120, Try.fa_120_2, Try.fa_120_3, Try.ld_2, Try.fa_120_4, Try.ld_4, callV_func Try.enters_70, t130,  t7,  hw',  d16, rs_tmp (show Try.f10.results = #[.tmp 4] from rfl)]
          refine W_blk_cut (fun fr' σ' => ∃ (t' : Tr Value), fr' = ⟨197, t'⟩ ∧ t'.get 130 = some (.int .u8 (w : Int)) ∧ t'.get 5 = some (pt s) ∧ t'.get 7 = some (pt σ1.next) ∧ t'.get 8 = some (.int .i64 now') ∧ t'.get 9 = some (.map (some σ3.next)) ∧ t'.get 10 = some (.map (some σ4.next)) ∧ t'.get 46 = some (.slice (some ⟨bb, o, none⟩) L'.length c1) ∧ t'.get 47 = some (.int .i64 (L'.length : Int)) ∧ t'.get 48 = some (.int .i64 (i : Int)) ∧ Wl σ σ' s tp F13 R.1 age σ3.next σ4.next σ1.next g') ?_ ?_
          · refine W_inv (fun k' fr' σ' => ∃ (t' : Tr Value) (j : Nat), fr' = ⟨197, t'⟩ ∧ t'.get 134 = some (.int .i64 (j : Int)) ∧ t'.get 133 = some (.agg #[.int .i64 1, .int .i64 2, .int .i64 4097]) ∧ t'.get 20 = some (.int .u8 (w : Int)) ∧ t'.get 130 = some (.int .u8 (w : Int)) ∧ t'.get 5 = some (pt s) ∧ t'.get 7 = some (pt σ1.next) ∧ t'.get 8 = some (.int .i64 now') ∧ t'.get 9 = some (.map (some σ3.next)) ∧ t'.get 10 = some (.map (some σ4.next)) ∧ t'.get 46 = some (.slice (some ⟨bb, o, none⟩) L'.length c1) ∧ t'.get 47 = some (.int .i64 (L'.length : Int)) ∧ t'.get 48 = some (.int .i64 (i : Int)) ∧ k' + j = 3 ∧ Wl σ σ' s tp F13 R.1 age σ3.next σ4.next σ1.next g') 3 (by omega)
              ⟨_, 0, rfl, by simp [get_put], by simp [get_put], by simp [get_put], by simp [get_put, t130], by simp [get_put, t5], by simp [get_put, t7], by simp [get_put, t8], by simp [get_put, t9], by simp [get_put, t10], by simp [get_put, t46], by simp [get_put, t47], by simp [get_put, t48], rfl, W16⟩ ?_
            clear t130 t5 t7 t8 t9 t10 t46 t47 t48 W16 d16
            rintro k2 fr' σ16 ⟨t, j, rfl, t134, t133, t20, t130, t5, t7, t8, t9, t10, t46, t47, t48, hk2, W16⟩
            by_cases hj : j < 3
            · have hj' : ((j : Int) < 3) = True := eq_true (by omega)
              have hj1 : IntKind.i64.wrap ((j : Int) + 1) = ((j + 1 : Nat) : Int) := wrap64 (by omega) (by omega)
              have hix : indexVal Try.prog 104 (.agg #[.int .i64 1, .int .i64 2, .int .i64 4097]) (.int .i64 (j : Int)) = some (.int .i64 (dm j : Int)) := by
                rw [indexVal_arr Try.underlying104 Try.size_3 (by kernel_rfl) hj]
                show (domV.toArray)[j]? = _
                rw [List.getElem?_toArray]
                exact dom_at hj
              obtain ⟨σ17, σ18, e17, t18', W18, y18, hS18, _⟩ := W16.var 111 [.int .i64 0, .int .i64 0] [.int .i64 (w : Int), .int .i64 (j : Int)] rfl (by intro v hv; simp at hv; rcases hv with rfl | rfl <;> rfl)
              simp (maxSteps := 2000000) only [B0, B1, B2, B3, B4, B5, B6, B7, Gd, extV, Nat.reduceLT, Nat.reduceEqDiff, Nat.reduceBEq, Nat.reduceAdd, Nat.reduceSub, Nat.reduceMul, ↓reduceIte, reduceCtorEq, if_true, if_false, ite_true, ite_false, Int.reduceLT, Int.reduceLE, ptr, callV_func Try.enters_64, allocV_zero Try.zero_104, Try.st_104, Try.len_100, Try.ia_100, Try.ld_108, allocV_zero Try.zero_108, Try.st_108, Try.fa_108_3, Try.ld_5, callV_func Try.enters_65, Try.fa_108_0, Try.fa_108_1, allocV_zero Try.zero_111, Try.st_111, Try.ld_111, callV_func Try.enters_66, Try.ia_111, Try.ld_3, Try.ia_104, callV_func Try.enters_68, Try.fa_108_2, callV_func Try.enters_67, Try.ld_104, callV_func Try.enters_69, allocV_zero Try.zero_120, Try.st_120, Try.fa_120_2, Try.fa_120_3, Try.ld_2, Try.fa_120_4, Try.ld_4, callV_func Try.enters_70, t134,  t133,  t20,  t130,  t5,  t7,  t8,  t9,  t10,  hj',  hix,  conv_int Try.underlying5 Try.underlying3,  hwi,  bld111,  e17,  t18',  Value.cells,  List.size_toArray, rs_tmp (show Try.f10.results = #[.tmp 4] from rfl)]
              refine station_run (w := w) f.h68 fun σ19 hS19 => ?_
              have W19 := W18.step hS19
              have y19 := y18.step hS19
              simp (maxSteps := 2000000) only [B0, B1, B2, B3, B4, B5, B6, B7, Gd, extV, Nat.reduceLT, Nat.reduceEqDiff, Nat.reduceBEq, Nat.reduceAdd, Nat.reduceSub, Nat.reduceMul, ↓reduceIte, reduceCtorEq, if_true, if_false, ite_true, ite_false, Int.reduceLT, Int.reduceLE, ptr, callV_func Try.enters_64, allocV_zero Try.zero_104, Try.st_104, Try.len_100, Try.ia_100, Try.ld_108, allocV_zero Try.zero_108, Try.st_108, Try.fa_108_3, Try.ld_5, callV_func Try.enters_65, Try.fa_108_0, Try.fa_108_1, allocV_zero Try.zero_111, Try.st_111, Try.ld_111, callV_func Try.enters_66, Try.ia_111, Try.ld_3, Try.ia_104, callV_func Try.enters_68, Try.fa_108_2, callV_func Try.enters_67, Try.ld_104, callV_func Try.enters_69, allocV_zero Try.zero_120, Try.st_120, Try.fa_120_2, Try.fa_120_3, Try.ld_2, Try.fa_120_4, Try.ld_4, callV_func Try.enters_70, t5, rs_tmp (show Try.f10.results = #[.tmp 4] from rfl)]
              refine lfind_run (d := dm j) f.toFreeL W19.w.h (staw _ w dm_ok) (by omega) fun σ20 hS20 => ?_
              have W20 := W19.step hS20
              have y20 := y19.step hS20
              obtain ⟨σ21, σ22, e21, t22', W22, q22, hS22, _⟩ := W20.var 120 zSt (((getE (kS (dm j) w) R.1).map encSt).getD zSt) (opt_len' _) (opt_single' _)
              have y22 := y20.step hS22
              have k22 : ldCells σ22 σ16.next 0 2 = some [.int .i64 (w : Int), .int .i64 (j : Int)] := y22.v.ldCells
              have hlk := W22.p.mp.look keyL (t := 106) Try.underlying106 Try.zero_3 (w, j) true
              have hlk1 := W22.l.mp.look keyL (t := 105) Try.underlying105 Try.zero_2 (w, j) false
              simp only [if_true, Bool.false_eq_true, if_false] at hlk hlk1
              simp (maxSteps := 2000000) only [B0, B1, B2, B3, B4, B5, B6, B7, Gd, extV, Nat.reduceLT, Nat.reduceEqDiff, Nat.reduceBEq, Nat.reduceAdd, Nat.reduceSub, Nat.reduceMul, ↓reduceIte, reduceCtorEq, if_true, if_false, ite_true, ite_false, Int.reduceLT, Int.reduceLE, ptr, callV_func Try.enters_64, allocV_zero Try.zero_104, Try.st_104, Try.len_100, Try.ia_100, Try.ld_108, allocV_zero Try.zero_108, Try.st_108, Try.fa_108_3, Try.ld_5, callV_func Try.enters_65, Try.fa_108_0, Try.fa_108_1, allocV_zero Try.zero_111, Try.st_111, Try.ld_111, callV_func Try.enters_66, Try.ia_111, Try.ld_3, Try.ia_104, callV_func Try.enters_68, Try.fa_108_2, callV_func Try.enters_67, Try.ld_104, callV_func Try.enters_69, allocV_zero Try.zero_120, Try.st_120, Try.fa_120_2, Try.fa_120_3, Try.ld_2, Try.fa_120_4, Try.ld_4, callV_func Try.enters_70, zst,  Value.cells,  opt_size',  opt_list',  e21,  t22',  t5,  t9,  t10,  k22,  hlk, rs_tmp (show Try.f10.results = #[.tmp 4] from rfl)]
              refine W_cut (fun fr' σ' => σ22 = σ' ∧ ∃ (t' : Tr Value), fr' = ⟨197, t'⟩ ∧ t'.get 192 = some (.bool false) ∧ t'.get 134 = some (.int .i64 (j : Int)) ∧ t'.get 133 = some (.agg #[.int .i64 1, .int .i64 2, .int .i64 4097]) ∧ t'.get 20 = some (.int .u8 (w : Int)) ∧ t'.get 130 = some (.int .u8 (w : Int)) ∧ t'.get 5 = some (pt s) ∧ t'.get 7 = some (pt σ1.next) ∧ t'.get 8 = some (.int .i64 now') ∧ t'.get 9 = some (.map (some σ3.next)) ∧ t'.get 10 = some (.map (some σ4.next)) ∧ t'.get 46 = some (.slice (some ⟨bb, o, none⟩) L'.length c1) ∧ t'.get 47 = some (.int .i64 (L'.length : Int)) ∧ t'.get 48 = some (.int .i64 (i : Int))) ?_ ?_
              · have hge := hT15.get w j hw hj
                rw [hge] at q22 ⊢
                cases hg : g' (w, j) with
                | none =>
                  have hp1 : (portV g' (w, j)).isSome = false := by simp [portV, hg]
                  have hl1 : liveE g' age now' w j = none := by simp [liveE, hg]
                  rw [hl1] at q22 ⊢
                  refine Eq.mpr (W_retold (ps := [(7, 4), (7, 5), (27, 22), (27, 24), (27, 25)]) (by kernel_rfl) (by kernel_rfl) (by simp)) ?_
                  simp (maxSteps := 2000000) only [B0, B1, B2, B3, B4, B5, B6, B7, Gd, extV, Nat.reduceLT, Nat.reduceEqDiff, Nat.reduceBEq, Nat.reduceAdd, Nat.reduceSub, Nat.reduceMul, ↓reduceIte, reduceCtorEq, if_true, if_false, ite_true, ite_false, Int.reduceLT, Int.reduceLE, ptr, callV_func Try.enters_64, allocV_zero Try.zero_104, Try.st_104, Try.len_100, Try.ia_100, Try.ld_108, allocV_zero Try.zero_108, Try.st_108, Try.fa_108_3, Try.ld_5, callV_func Try.enters_65, Try.fa_108_0, Try.fa_108_1, allocV_zero Try.zero_111, Try.st_111, Try.ld_111, callV_func Try.enters_66, Try.ia_111, Try.ld_3, Try.ia_104, callV_func Try.enters_68, Try.fa_108_2, callV_func Try.enters_67, Try.ld_104, callV_func Try.enters_69, allocV_zero Try.zero_120, Try.st_120, Try.fa_120_2, Try.fa_120_3, Try.ld_2, Try.fa_120_4, Try.ld_4, callV_func Try.enters_70, hp1,  Option.isSome_none,  t5,  t8,  t9,  t10,  k22,  wanted_g (P := Try.prog),  wantB_tt,  wantB_ff,  wantB_tf,  wantB_ft,  wantB_un,  Bool.false_eq_true,  false_implies,  RetAt_mkg,  RetAt_lastg,  bin_bneq Try.underlying4,  eq_self,  decide_true,  decide_false, rs_tmp (show Try.f10.results = #[.tmp 4] from rfl)]
                  exact ⟨_, _, rfl, rfl, _, rfl, by simp [get_put], by simp [get_put, t134], by simp [get_put, t133], by simp [get_put, t20], by simp [get_put, t130], by simp [get_put, t5], by simp [get_put, t7], by simp [get_put, t8], by simp [get_put, t9], by simp [get_put, t10], by simp [get_put, t46], by simp [get_put, t47], by simp [get_put, t48]⟩
                | some q =>
                  have hp1 : (portV g' (w, j)).isSome = true := by simp [portV, hg]
                  have hp2 : (portV g' (w, j)).getD (.int .i64 0) = .int .i64 q.2 := by simp [portV, hg]
                  have hq := hgb' _ _ hg
                  have hws : IntKind.i64.wrap (q.1 + age) = q.1 + age := wrap64 (by omega) (by omega)
                  have hl2 : (lastV g' (w, j)).getD (.int .i64 0) = .int .i64 q.1 := by simp [lastV, hg]
                  rw [hl2] at hlk1
                  by_cases hlv : now' < q.1 + age
                  · have hl1 : liveE g' age now' w j = some (kS (dm j) w, q.2, q.1 + age, false) := by simp [liveE, hg, hlv]
                    have hlv' := eq_true hlv
                    rw [hl1] at q22 ⊢
                    have q7 : ld σ22 σ20.next 7 = some (.int .i64 q.2) := q22.v.ld rfl
                    have q8 : ld σ22 σ20.next 8 = some (.int .i64 (q.1 + age)) := q22.v.ld rfl
                    have q9 : ld σ22 σ20.next 9 = some (.bool false) := q22.v.ld rfl
                    refine Eq.mpr (W_retold (ps := [(7, 4), (7, 5), (27, 22), (27, 24), (27, 25)]) (by kernel_rfl) (by kernel_rfl) (by simp)) ?_
                    simp (maxSteps := 2000000) only [B0, B1, B2, B3, B4, B5, B6, B7, Gd, extV, Nat.reduceLT, Nat.reduceEqDiff, Nat.reduceBEq, Nat.reduceAdd, Nat.reduceSub, Nat.reduceMul, ↓reduceIte, reduceCtorEq, if_true, if_false, ite_true, ite_false, Int.reduceLT, Int.reduceLE, ptr, callV_func Try.enters_64, allocV_zero Try.zero_104, Try.st_104, Try.len_100, Try.ia_100, Try.ld_108, allocV_zero Try.zero_108, Try.st_108, Try.fa_108_3, Try.ld_5, callV_func Try.enters_65, Try.fa_108_0, Try.fa_108_1, allocV_zero Try.zero_111, Try.st_111, Try.ld_111, callV_func Try.enters_66, Try.ia_111, Try.ld_3, Try.ia_104, callV_func Try.enters_68, Try.fa_108_2, callV_func Try.enters_67, Try.ld_104, callV_func Try.enters_69, allocV_zero Try.zero_120, Try.st_120, Try.fa_120_2, Try.fa_120_3, Try.ld_2, Try.fa_120_4, Try.ld_4, callV_func Try.enters_70, hp1,  hp2,  Option.isSome_some,  t5,  t8,  t9,  t10,  k22,  hlk1,  lage_run f.toFreeL W22.w.h,  hws,  hlv',  q7,  q8,  q9,  wanted_g (P := Try.prog),  wantB_tt,  wantB_ff,  wantB_tf,  wantB_ft,  wantB_un,  Bool.false_eq_true,  false_implies,  RetAt_mkg,  RetAt_lastg,  same_kf,  implies_true,  bin_bneq Try.underlying4,  eq_self,  decide_true,  decide_false, rs_tmp (show Try.f10.results = #[.tmp 4] from rfl)]
                    exact ⟨_, _, rfl, rfl, _, rfl, by simp [get_put], by simp [get_put, t134], by simp [get_put, t133], by simp [get_put, t20], by simp [get_put, t130], by simp [get_put, t5], by simp [get_put, t7], by simp [get_put, t8], by simp [get_put, t9], by simp [get_put, t10], by simp [get_put, t46], by simp [get_put, t47], by simp [get_put, t48]⟩
                  · have hl1 : liveE g' age now' w j = none := by simp [liveE, hg, hlv]
                    have hlv' := eq_false hlv
                    rw [hl1] at q22 ⊢
                    refine Eq.mpr (W_retold (ps := [(7, 4), (7, 5), (27, 22), (27, 24), (27, 25)]) (by kernel_rfl) (by kernel_rfl) (by simp)) ?_
                    simp (maxSteps := 2000000) only [B0, B1, B2, B3, B4, B5, B6, B7, Gd, extV, Nat.reduceLT, Nat.reduceEqDiff, Nat.reduceBEq, Nat.reduceAdd, Nat.reduceSub, Nat.reduceMul, ↓reduceIte, reduceCtorEq, if_true, if_false, ite_true, ite_false, Int.reduceLT, Int.reduceLE, ptr, callV_func Try.enters_64, allocV_zero Try.zero_104, Try.st_104, Try.len_100, Try.ia_100, Try.ld_108, allocV_zero Try.zero_108, Try.st_108, Try.fa_108_3, Try.ld_5, callV_func Try.enters_65, Try.fa_108_0, Try.fa_108_1, allocV_zero Try.zero_111, Try.st_111, Try.ld_111, callV_func Try.enters_66, Try.ia_111, Try.ld_3, Try.ia_104, callV_func Try.enters_68, Try.fa_108_2, callV_func Try.enters_67, Try.ld_104, callV_func Try.enters_69, allocV_zero Try.zero_120, Try.st_120, Try.fa_120_2, Try.fa_120_3, Try.ld_2, Try.fa_120_4, Try.ld_4, callV_func Try.enters_70, hp1,  hp2,  Option.isSome_none,  t5,  t8,  t9,  t10,  k22,  hlk1,  lage_run f.toFreeL W22.w.h,  hws,  hlv',  wanted_g (P := Try.prog),  wantB_tt,  wantB_ff,  wantB_tf,  wantB_ft,  wantB_un,  Bool.false_eq_true,  false_implies,  RetAt_mkg,  RetAt_lastg,  same_kf,  implies_true,  bin_bneq Try.underlying4,  eq_self,  decide_true,  decide_false, rs_tmp (show Try.f10.results = #[.tmp 4] from rfl)]
                    exact ⟨_, _, rfl, rfl, _, rfl, by simp [get_put], by simp [get_put, t134], by simp [get_put, t133], by simp [get_put, t20], by simp [get_put, t130], by simp [get_put, t5], by simp [get_put, t7], by simp [get_put, t8], by simp [get_put, t9], by simp [get_put, t10], by simp [get_put, t46], by simp [get_put, t47], by simp [get_put, t48]⟩
              clear t134 t133 t20 t130 t5 t7 t8 t9 t10 t46 t47 t48
              rintro fr' σ' ⟨rfl, t, rfl, t192, t134, t133, t20, t130, t5, t7, t8, t9, t10, t46, t47, t48⟩
              rw [KSeq_normal]
              simp (maxSteps := 2000000) only [B0, B1, B2, B3, B4, B5, B6, B7, Gd, extV, Nat.reduceLT, Nat.reduceEqDiff, Nat.reduceBEq, Nat.reduceAdd, Nat.reduceSub, Nat.reduceMul, ↓reduceIte, reduceCtorEq, if_true, if_false, ite_true, ite_false, Int.reduceLT, Int.reduceLE, ptr, callV_func Try.enters_64, allocV_zero Try.zero_104, Try.st_104, Try.len_100, Try.ia_100, Try.ld_108, allocV_zero Try.zero_108, Try.st_108, Try.fa_108_3, Try.ld_5, callV_func Try.enters_65, Try.fa_108_0, Try.fa_108_1, allocV_zero Try.zero_111, Try.st_111, Try.ld_111, callV_func Try.enters_66, Try.ia_111, Try.ld_3, Try.ia_104, callV_func Try.enters_68, Try.fa_108_2, callV_func Try.enters_67, Try.ld_104, callV_func Try.enters_69, allocV_zero Try.zero_120, Try.st_120, Try.fa_120_2, Try.fa_120_3, Try.ld_2, Try.fa_120_4, Try.ld_4, callV_func Try.enters_70, t192,  t134,  hj1,  KInv_normal, rs_tmp (show Try.f10.results = #[.tmp 4] from rfl)]
              exact ⟨3 - (j + 1), by omega, _, j + 1, rfl, by simp [get_put], by simp [get_put, t133], by simp [get_put, t20], by simp [get_put, t130], by simp [get_put, t5], by simp [get_put, t7], by simp [get_put, t8], by simp [get_put, t9], by simp [get_put, t10], by simp [get_put, t46], by simp [get_put, t47], by simp [get_put, t48], by omega, W22⟩
            · have hj' : ((j : Int) < 3) = False := eq_false (by omega)
              simp (maxSteps := 2000000) only [B0, B1, B2, B3, B4, B5, B6, B7, Gd, extV, Nat.reduceLT, Nat.reduceEqDiff, Nat.reduceBEq, Nat.reduceAdd, Nat.reduceSub, Nat.reduceMul, ↓reduceIte, reduceCtorEq, if_true, if_false, ite_true, ite_false, Int.reduceLT, Int.reduceLE, ptr, callV_func Try.enters_64, allocV_zero Try.zero_104, Try.st_104, Try.len_100, Try.ia_100, Try.ld_108, allocV_zero Try.zero_108, Try.st_108, Try.fa_108_3, Try.ld_5, callV_func Try.enters_65, Try.fa_108_0, Try.fa_108_1, allocV_zero Try.zero_111, Try.st_111, Try.ld_111, callV_func Try.enters_66, Try.ia_111, Try.ld_3, Try.ia_104, callV_func Try.enters_68, Try.fa_108_2, callV_func Try.enters_67, Try.ld_104, callV_func Try.enters_69, allocV_zero Try.zero_120, Try.st_120, Try.fa_120_2, Try.fa_120_3, Try.ld_2, Try.fa_120_4, Try.ld_4, callV_func Try.enters_70, t134,  hj', rs_tmp (show Try.f10.results = #[.tmp 4] from rfl)]
              exact ⟨_, _, rfl, _, rfl, by simp [get_put, t130], by simp [get_put, t5], by simp [get_put, t7], by simp [get_put, t8], by simp [get_put, t9], by simp [get_put, t10], by simp [get_put, t46], by simp [get_put, t47], by simp [get_put, t48], W16⟩
          · clear t130 t5 t7 t8 t9 t10 t46 t47 t48 W16 d16
            rintro fr' σ16 ⟨t, rfl, t130, t5, t7, t8, t9, t10, t46, t47, t48, W16⟩
            simp only [KBlk_normal]
            rw [KSeq_normal]
            simp (maxSteps := 2000000) only [B0, B1, B2, B3, B4, B5, B6, B7, Gd, extV, Nat.reduceLT, Nat.reduceEqDiff, Nat.reduceBEq, Nat.reduceAdd, Nat.reduceSub, Nat.reduceMul, ↓reduceIte, reduceCtorEq, if_true, if_false, ite_true, ite_false, Int.reduceLT, Int.reduceLE, ptr, callV_func Try.enters_64, allocV_zero Try.zero_104, Try.st_104, Try.len_100, Try.ia_100, Try.ld_108, allocV_zero Try.zero_108, Try.st_108, Try.fa_108_3, Try.ld_5, callV_func Try.enters_65, Try.fa_108_0, Try.fa_108_1, allocV_zero Try.zero_111, Try.st_111, Try.ld_111, callV_func Try.enters_66, Try.ia_111, Try.ld_3, Try.ia_104, callV_func Try.enters_68, Try.fa_108_2, callV_func Try.enters_67, Try.ld_104, callV_func Try.enters_69, allocV_zero Try.zero_120, Try.st_120, Try.fa_120_2, Try.fa_120_3, Try.ld_2, Try.fa_120_4, Try.ld_4, callV_func Try.enters_70, t130,  hwu,  KInv_normal, rs_tmp (show Try.f10.results = #[.tmp 4] from rfl)]
            exact ⟨8 - (w + 1), by omega, _, w + 1, rfl, by simp [get_put], by simp [get_put, t5], by simp [get_put, t7], by simp [get_put, t8], by simp [get_put, t9], by simp [get_put, t10], by simp [get_put, t46], by simp [get_put, t47], by simp [get_put, t48], by omega, W16⟩
        · have hw' : ((w : Int) < 8) = False := eq_false (by omega)
          simp (maxSteps := 2000000) only [B0, B1, B2, B3, B4, B5, B6, B7, Gd, extV, Nat.reduceLT, Nat.reduceEqDiff, Nat.reduceBEq, Nat.reduceAdd, Nat.reduceSub, Nat.reduceMul, ↓reduceIte, reduceCtorEq, if_true, if_false, ite_true, ite_false, Int.reduceLT, Int.reduceLE, ptr, callV_func Try.enters_64, allocV_zero Try.zero_104, Try.st_104, Try.len_100, Try.ia_100, Try.ld_108, allocV_zero Try.zero_108, Try.st_108, Try.fa_108_3, Try.ld_5, callV_func Try.enters_65, Try.fa_108_0, Try.fa_108_1, allocV_zero Try.zero_111, Try.st_111, Try.ld_111, callV_func Try.enters_66, Try.ia_111, Try.ld_3, Try.ia_104, callV_func Try.enters_68, Try.fa_108_2, callV_func Try.enters_67, Try.ld_104, callV_func Try.enters_69, allocV_zero Try.zero_120, Try.st_120, Try.fa_120_2, Try.fa_120_3, Try.ld_2, Try.fa_120_4, Try.ld_4, callV_func Try.enters_70, t130,  hw', rs_tmp (show Try.f10.results = #[.tmp 4] from rfl)]
          exact ⟨_, _, rfl, _, rfl, by simp [get_put, t5], by simp [get_put, t7], by simp [get_put, t8], by simp [get_put, t9], by simp [get_put, t10], by simp [get_put, t46], by simp [get_put, t47], by simp [get_put, t48], W16⟩
      · clear t5 t7 t8 t9 t10 t46 t47 t48 t12 t13 t17 t18 t19
        rintro fr' σ16 ⟨t, rfl, t5, t7, t8, t9, t10, t46, t47, t48, W16⟩
        simp only [KBlk_normal]
        rw [KSeq_normal]
        simp (maxSteps := 2000000) only [B0, B1, B2, B3, B4, B5, B6, B7, Gd, extV, Nat.reduceLT, Nat.reduceEqDiff, Nat.reduceBEq, Nat.reduceAdd, Nat.reduceSub, Nat.reduceMul, ↓reduceIte, reduceCtorEq, if_true, if_false, ite_true, ite_false, Int.reduceLT, Int.reduceLE, ptr, callV_func Try.enters_64, allocV_zero Try.zero_104, Try.st_104, Try.len_100, Try.ia_100, Try.ld_108, allocV_zero Try.zero_108, Try.st_108, Try.fa_108_3, Try.ld_5, callV_func Try.enters_65, Try.fa_108_0, Try.fa_108_1, allocV_zero Try.zero_111, Try.st_111, Try.ld_111, callV_func Try.enters_66, Try.ia_111, Try.ld_3, Try.ia_104, callV_func Try.enters_68, Try.fa_108_2, callV_func Try.enters_67, Try.ld_104, callV_func Try.enters_69, allocV_zero Try.zero_120, Try.st_120, Try.fa_120_2, Try.fa_120_3, Try.ld_2, Try.fa_120_4, Try.ld_4, callV_func Try.enters_70, t48,  hw1,  KInv_normal, rs_tmp (show Try.f10.results = #[.tmp 4] from rfl)]
        exact ⟨L'.length - (i + 1), by omega, _, i + 1, F13, R.1, g', now', rfl, by simp [get_put, t5], by simp [get_put, t7], by simp [get_put, t8], by simp [get_put, t9], by simp [get_put, t10], by simp [get_put, t46], by simp [get_put, t47], by simp [get_put], by omega, W16, hT15, by omega, by omega, hgb'⟩
    · have hlt' : ((i : Int) < (L'.length : Int)) = False := eq_false (by omega)
      simp (maxSteps := 2000000) only [B0, B1, B2, B3, B4, B5, B6, B7, Gd, extV, Nat.reduceLT, Nat.reduceEqDiff, Nat.reduceBEq, Nat.reduceAdd, Nat.reduceSub, Nat.reduceMul, ↓reduceIte, reduceCtorEq, if_true, if_false, ite_true, ite_false, Int.reduceLT, Int.reduceLE, ptr, callV_func Try.enters_64, allocV_zero Try.zero_104, Try.st_104, Try.len_100, Try.ia_100, Try.ld_108, allocV_zero Try.zero_108, Try.st_108, Try.fa_108_3, Try.ld_5, callV_func Try.enters_65, Try.fa_108_0, Try.fa_108_1, allocV_zero Try.zero_111, Try.st_111, Try.ld_111, callV_func Try.enters_66, Try.ia_111, Try.ld_3, Try.ia_104, callV_func Try.enters_68, Try.fa_108_2, callV_func Try.enters_67, Try.ld_104, callV_func Try.enters_69, allocV_zero Try.zero_120, Try.st_120, Try.fa_120_2, Try.fa_120_3, Try.ld_2, Try.fa_120_4, Try.ld_4, callV_func Try.enters_70, t47,  t48,  hlt', rs_tmp (show Try.f10.results = #[.tmp 4] from rfl)]
      exact ⟨_, _, rfl, _, rfl, W6.w.same⟩
  · rintro fr σ6 ⟨t, rfl, hS6⟩
    rw [KSeq_normal]
    simp (maxSteps := 2000000) only [B0, B1, B2, B3, B4, B5, B6, B7, Gd, extV, Nat.reduceLT, Nat.reduceEqDiff, Nat.reduceBEq, Nat.reduceAdd, Nat.reduceSub, Nat.reduceMul, ↓reduceIte, reduceCtorEq, if_true, if_false, ite_true, ite_false, Int.reduceLT, Int.reduceLE, ptr, callV_func Try.enters_64, allocV_zero Try.zero_104, Try.st_104, Try.len_100, Try.ia_100, Try.ld_108, allocV_zero Try.zero_108, Try.st_108, Try.fa_108_3, Try.ld_5, callV_func Try.enters_65, Try.fa_108_0, Try.fa_108_1, allocV_zero Try.zero_111, Try.st_111, Try.ld_111, callV_func Try.enters_66, Try.ia_111, Try.ld_3, Try.ia_104, callV_func Try.enters_68, Try.fa_108_2, callV_func Try.enters_67, Try.ld_104, callV_func Try.enters_69, allocV_zero Try.zero_120, Try.st_120, Try.fa_120_2, Try.fa_120_3, Try.ld_2, Try.fa_120_4, Try.ld_4, callV_func Try.enters_70, rs_tmp (show Try.f10.results = #[.tmp 4] from rfl)]
    refine lwakes_run f.toFreeL f.h70 (by omega) fun σ7 hS7 => ?_
    simp (maxSteps := 2000000) only [B0, B1, B2, B3, B4, B5, B6, B7, Gd, extV, Nat.reduceLT, Nat.reduceEqDiff, Nat.reduceBEq, Nat.reduceAdd, Nat.reduceSub, Nat.reduceMul, ↓reduceIte, reduceCtorEq, if_true, if_false, ite_true, ite_false, Int.reduceLT, Int.reduceLE, ptr, callV_func Try.enters_64, allocV_zero Try.zero_104, Try.st_104, Try.len_100, Try.ia_100, Try.ld_108, allocV_zero Try.zero_108, Try.st_108, Try.fa_108_3, Try.ld_5, callV_func Try.enters_65, Try.fa_108_0, Try.fa_108_1, allocV_zero Try.zero_111, Try.st_111, Try.ld_111, callV_func Try.enters_66, Try.ia_111, Try.ld_3, Try.ia_104, callV_func Try.enters_68, Try.fa_108_2, callV_func Try.enters_67, Try.ld_104, callV_func Try.enters_69, allocV_zero Try.zero_120, Try.st_120, Try.fa_120_2, Try.fa_120_3, Try.ld_2, Try.fa_120_4, Try.ld_4, callV_func Try.enters_70, rs_tmp (show Try.f10.results = #[.tmp 4] from rfl)]
    exact hQ σ7 (hS6.trans hS7 nofun)
end Go.Proofs.Ytongccpmdndcgaa.Lrn
end
/- The law on the last port. -/
section
set_option linter.all false
namespace Go.Proofs.Ytongccpmdndcgaa.Lrn
open Go Go.AE Go.Proofs.Ytongccpmdndcgaa.Alm Go.Proofs.Ytongccpmdndcgaa.Tab Go.Sort Go.Proofs Go.RowKit Go.ChangeShapes
set_option maxRecDepth 100000
theorem last_law {H : Type} {enc : TypeId × Value → H} {w : World} {held : Bool} {a : Option Addr} {len cap : Nat} {d : DataW H} {ps : List MemPlace} (h : DataW.Trod enc Try.prog w 0 (fun _ => true) held 100 (.slice a len cap) d ps) {p : Int} (hp : (Lit.int .u8 p).wf = true) :
    Calls Try.prog 10 #[.int .u8 p, .slice a len cap] w fun e w' => e = .returned (.bool true) ∧ Below w.heap.size w w' := by
  obtain ⟨σ, ρ, v, L, hR, hv, hs, hro, hcu⟩ := slice_arg2 encSnOk encSn_atom Try.underlying100 c108 decSn h
  obtain ⟨p, rfl, _⟩ := u8_nat hp
  exact open_true (by kernel_rfl) toldL hR hro (.cons (.atom rfl) (.cons hv .nil)) (last_run freeL hs hcu (n := 1200) (by omega) fun _ _ => rfl)
end Go.Proofs.Ytongccpmdndcgaa.Lrn
end
