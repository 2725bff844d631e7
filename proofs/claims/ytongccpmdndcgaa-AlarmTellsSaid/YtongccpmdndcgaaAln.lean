/- Texts of this proof, gathered. What each part says stands at its head; conditions: none but those that its theorems name. -/
import Derived.Test.YtongccpmdndcgaaAlm
/- The document's alarms: a sorted row. -/
section
set_option linter.all false
namespace Go.Proofs.Ytongccpmdndcgaa.Alm
open Go Go.AE Go.Hp Go.Sort Go.Proofs
set_option maxRecDepth 100000
set_option maxHeartbeats 1000000
attribute [local irreducible] Go.AE.Tr.put Go.AE.Tr.get
variable {gs : List Nat} {orc : Orc} {n : Nat} {σ : AHeap} {Q : Value × AHeap → Prop}
variable {q : Nat} {v : Value} {L : List Al}

structure Free8 (orc : Orc) : Prop extends Free6 orc where
  h29 : orc 29 = none
  h31 : orc 31 = none
  h32 : orc 32 = none
  h33 : orc 33 = none
  h34 : orc 34 = none
  h108 : orc 108 = none
/-- The document's alarms in memory. -/
structure RAt (σ : AHeap) (q : Nat) (v : Value) (L : List Al) : Prop where
  obj : VarAt σ q [v]
  sl : SlAt σ 55 2 encA v L
  qv : q ∉ blks v
theorem RAt.same {σ' : AHeap} {G : List Nat} (h : RAt σ q v L) (hs : Same σ σ' G) (h1 : q ∉ G) (h2 : ∀ b ∈ blks v, b ∉ G) : RAt σ' q v L := ⟨h.obj.same hs h1, h.sl.same hs h2, h.qv⟩
theorem RAt.ld0 (h : RAt σ q v L) : ld σ q 0 = some v := h.obj.ld rfl
theorem RAt.put (h : RAt σ q v L) {v' : Value} {L' : List Al} (hv : SlAt σ 55 2 encA v' L') (hq : q ∉ blks v') : ∃ σ', stCells σ q 0 [v'] = some σ' ∧ RAt σ' q v' L' ∧ Same σ σ' [q] ∧ σ'.next = σ.next := by
  obtain ⟨a, c, rfl, _⟩ := hv.len
  obtain ⟨σ', t, hv', hS, hn⟩ := h.obj.store (vs' := [.slice a L'.length c]) rfl (by intro v hv; simp at hv; subst hv; rfl)
  exact ⟨σ', t, ⟨hv', hv.same hS (fun b hb w => by simp at w; exact hq (w ▸ hb)), hq⟩, hS, hn⟩
theorem sgt_eq {a b : ByteArray} : (!(sLt a b || decide (a = b))) = sLt b a := by
  rcases sLt_tri a b with h | h | h
  · rw [h, sLt_asymm h]; rfl
  · subst h; rw [sLt_irr]; simp
  · rw [h, sLt_asymm h]
    have : ¬ a = b := fun e => by rw [e, sLt_irr] at h; cases h
    simp [this]
theorem find_run (f : Free8 orc) (h : RAt σ q v L) (k : ByteArray) (hn : L.length < n) (hN : L.length ≤ 1048576)
    (h1 : (∀ y ∈ L, y.1 ≠ k) → Q (.int .i64 (-1), σ)) (h2 : ∀ (j : Nat) (y : Al), L[j]? = some y → y.1 = k → Q (.int .i64 (j : Int), σ)) : W (acall Try.prog gs orc (n + 1) 108 [pt q, .string k] σ) Q := by
  obtain ⟨a, c, rfl, hc⟩ := h.sl.len
  rw [W_start (m := 26) (keep := []) Try.func108 rfl (by kernel_rfl) (by kernel_rfl) (by first | rfl | assumption | exact f.h108) (by rfl)]
  simp (maxSteps := 2000000) only [B0, B1, B2, B3, B4, B5, B6, B7, Gd, extV, Nat.reduceLT, Nat.reduceEqDiff, Nat.reduceBEq, Nat.reduceAdd, Nat.reduceSub, Nat.reduceMul, ↓reduceIte, reduceCtorEq, if_true, if_false, ite_true, ite_false, Int.reduceLT, Int.reduceLE, ptr, Try.fa_45_0, Try.ld_43, Try.len_43, Try.ia_43, Try.fa_55_0, Try.ld_9, rs_tmp (show Try.f108.results = #[.tmp 4] from rfl)]
  refine W_inv (fun m fr σ' => σ' = σ ∧ ∃ (t : Tr Value) (i : Nat), fr = ⟨26, t⟩ ∧ t.get 0 = some (pt q) ∧ t.get 1 = some (.string k) ∧ t.get 5 = some (.int .i64 (i : Int)) ∧ m + i = L.length ∧ ∀ j y, j < i → L[j]? = some y → y.1 ≠ k) L.length (by omega)
    ⟨rfl, _, 0, rfl, by simp [get_put, get_args], by simp [get_put, get_args], by simp [get_put], rfl, fun j y hj => by omega⟩ ?_
  rintro m fr σ1 ⟨rfl, t, i, rfl, t0, t1, t5, hm, hb⟩
  have hl0 := h.ld0
  by_cases hlt : i < L.length
  · have hx := List.getElem?_eq_getElem hlt
    generalize L[i] = x at hx
    obtain ⟨b, o, cap, g, e, hcap, hbl, hr⟩ := h.sl.at_ hx
    injection e with e _ e3
    subst e e3
    have x0 := hr.ld (j := 0) hx rfl
    simp only [Nat.add_zero] at x0
    have hlt' : (i : Int) < (L.length : Int) := by omega
    have hw1 : IntKind.i64.wrap ((i : Int) + 1) = ((i + 1 : Nat) : Int) := wrap64 (by omega) (by omega)
    by_cases hk : x.1 = k
    · subst hk
      simp (maxSteps := 2000000) only [B0, B1, B2, B3, B4, B5, B6, B7, Gd, extV, Nat.reduceLT, Nat.reduceEqDiff, Nat.reduceBEq, Nat.reduceAdd, Nat.reduceSub, Nat.reduceMul, ↓reduceIte, reduceCtorEq, if_true, if_false, ite_true, ite_false, Int.reduceLT, Int.reduceLE, ptr, Try.fa_45_0, Try.ld_43, Try.len_43, Try.ia_43, Try.fa_55_0, Try.ld_9, t0,  t1,  t5,  hl0,  hlt',  hlt,  x0, rs_tmp (show Try.f108.results = #[.tmp 4] from rfl)]
      exact h2 i x hx rfl
    · have hk' : (x.1 = k) = False := eq_false hk
      simp (maxSteps := 2000000) only [B0, B1, B2, B3, B4, B5, B6, B7, Gd, extV, Nat.reduceLT, Nat.reduceEqDiff, Nat.reduceBEq, Nat.reduceAdd, Nat.reduceSub, Nat.reduceMul, ↓reduceIte, reduceCtorEq, if_true, if_false, ite_true, ite_false, Int.reduceLT, Int.reduceLE, ptr, Try.fa_45_0, Try.ld_43, Try.len_43, Try.ia_43, Try.fa_55_0, Try.ld_9, t0,  t1,  t5,  hl0,  hlt',  hlt,  x0,  hk',  hw1,  KInv_normal, rs_tmp (show Try.f108.results = #[.tmp 4] from rfl)]
      refine ⟨L.length - (i + 1), by omega, _, i + 1, rfl, by simp [get_put, t0], by simp [get_put, t1], by simp [get_put], by omega, fun j y hj hy => ?_⟩
      by_cases hji : j = i
      · subst hji; rw [hx] at hy; cases hy; exact hk
      · exact hb j y (by omega) hy
  · have hlt' : ((i : Int) < (L.length : Int)) = False := eq_false (by omega)
    simp (maxSteps := 2000000) only [B0, B1, B2, B3, B4, B5, B6, B7, Gd, extV, Nat.reduceLT, Nat.reduceEqDiff, Nat.reduceBEq, Nat.reduceAdd, Nat.reduceSub, Nat.reduceMul, ↓reduceIte, reduceCtorEq, if_true, if_false, ite_true, ite_false, Int.reduceLT, Int.reduceLE, ptr, Try.fa_45_0, Try.ld_43, Try.len_43, Try.ia_43, Try.fa_55_0, Try.ld_9, t0,  t1,  t5,  hl0,  hlt', rs_tmp (show Try.f108.results = #[.tmp 4] from rfl)]
    exact h1 fun y hy => by
      obtain ⟨j, hj⟩ := List.mem_iff_getElem?.1 hy
      exact hb j y (by have := (List.getElem?_eq_some_iff.1 hj).1; omega) hj
theorem rem_at {k : ByteArray} {j : Nat} {y : Al} (hk : KD L) (hj : L[j]? = some y) (hy : y.1 = k) : remA k L = L.take j ++ L.drop (j + 1) := by
  obtain ⟨hlt, hje⟩ := List.getElem?_eq_some_iff.1 hj
  have e : L = L.take j ++ y :: L.drop (j + 1) := by rw [← hje, ← List.drop_eq_getElem_cons hlt, List.take_append_drop]
  have hk2 : KD (L.take j ++ y :: L.drop (j + 1)) := by rw [← e]; exact hk
  unfold KD at hk2
  rw [List.map_append, List.map_cons, List.nodup_append] at hk2
  obtain ⟨_, a2, a3⟩ := hk2
  have b1 : remA k (L.take j) = L.take j := remA_not fun z hz w => a3 z.1 (List.mem_map.2 ⟨z, hz, rfl⟩) y.1 (by simp) (by rw [w, hy])
  have b2 : remA k (L.drop (j + 1)) = L.drop (j + 1) := remA_not fun z hz w => (List.nodup_cons.1 a2).1 (List.mem_map.2 ⟨z, hz, by rw [w, hy]⟩)
  have b3 : remA k L = remA k (L.take j) ++ remA k (y :: L.drop (j + 1)) := by
    conv => lhs; rw [e]
    unfold remA; rw [List.filter_append]
  rw [b3, b1]
  congr 1
  have : remA k (y :: L.drop (j + 1)) = remA k (L.drop (j + 1)) := by unfold remA; rw [List.filter_cons_of_neg (by simp [hy])]
  rw [this, b2]
theorem rdrop_run (f : Free8 orc) (h : RAt σ q v L) (hk : KD L) (k : ByteArray) (hn : L.length < n) (hN : L.length ≤ 1048575)
    (hQ : ∀ σ' v', RAt σ' q v' (remA k L) → (∀ b ∈ blks v', b ∈ blks v ∨ σ.next ≤ b) → Same σ σ' [q] → Q (.int .i64 (if (getA k L).isSome then 0 else 6), σ')) :
    W (acall Try.prog gs orc (n + 2) 31 [pt q, .string k] σ) Q := by
  have hl0 := h.ld0
  have hqn := h.obj.1
  rw [W_start (m := 32) (keep := []) Try.func31 rfl (by kernel_rfl) (by kernel_rfl) (by first | rfl | assumption | exact f.h31) (by rfl)]
  simp (maxSteps := 2000000) only [B0, B1, B2, B3, B4, B5, B6, B7, Gd, extV, Nat.reduceLT, Nat.reduceEqDiff, Nat.reduceBEq, Nat.reduceAdd, Nat.reduceSub, Nat.reduceMul, ↓reduceIte, reduceCtorEq, if_true, if_false, ite_true, ite_false, Int.reduceLT, Int.reduceLE, ptr, callV_func Try.enters_108, Try.fa_45_0, Try.ld_43, Try.st_43, rs_tmp (show Try.f31.results = #[.tmp 4] from rfl)]
  refine find_run f h k (by omega) (by omega) (fun hno => ?_) fun j y hj hy => ?_
  · have := hQ σ v (by rw [remA_not hno]; exact h) (fun b hb => .inl hb) (.refl _ _)
    rw [getA_none hno] at this
    simp (maxSteps := 2000000) only [B0, B1, B2, B3, B4, B5, B6, B7, Gd, extV, Nat.reduceLT, Nat.reduceEqDiff, Nat.reduceBEq, Nat.reduceAdd, Nat.reduceSub, Nat.reduceMul, ↓reduceIte, reduceCtorEq, if_true, if_false, ite_true, ite_false, Int.reduceLT, Int.reduceLE, ptr, callV_func Try.enters_108, Try.fa_45_0, Try.ld_43, Try.st_43, show ((-1 : Int) < 0) = True from eq_true (by omega), rs_tmp (show Try.f31.results = #[.tmp 4] from rfl)]
    exact this
  · have hjl := (List.getElem?_eq_some_iff.1 hj).1
    have hg : (getA k L).isSome = true := getA_some.2 ⟨y, List.mem_of_getElem? hj, hy⟩
    rw [hg] at hQ
    have hneg : ((j : Int) < 0) = False := eq_false (by omega)
    have hw : IntKind.i64.wrap ((j : Int) + 1) = ((j + 1 : Nat) : Int) := wrap64 (by omega) (by omega)
    obtain ⟨v1, s1, hv1, hb1⟩ := slice_take (kk := .i64) Try.underlying43 Try.size_55 h.sl (j := j) (by omega)
    obtain ⟨a1, c1, rfl, hc1⟩ := hv1.len
    have hf1 := hv1.first encOk
    obtain ⟨v2, σ2, t2, hv2, hS2, hb2⟩ := append_spec (base := none) (n := 0) (cap := 0) encOk (σ := σ) (e := 55) (A := []) (.inl ⟨rfl, rfl⟩) (L.take j) (by simp; omega)
    simp only [List.nil_append] at hv2
    have hb2' : ∀ b ∈ blks v2, σ.next ≤ b := fun b hb => by rcases hb2 b hb with w | w; cases w; exact w
    have hS2' : Same σ σ2 [] := hS2
    have h2 := h.same hS2' nofun nofun
    obtain ⟨v3, s3, hv3, hb3⟩ := slice_drop (kk := .i64) Try.underlying43 Try.size_55 h2.sl (j := j + 1) (by omega)
    obtain ⟨a3, c3, rfl, hc3⟩ := hv3.len
    have hf3 := hv3.first encOk
    obtain ⟨a2, c2, rfl, hc2⟩ := hv2.len
    obtain ⟨v4, σ4, t4, hv4, hS4, hb4⟩ := append_spec encOk hv2 (L.drop (j + 1)) (by simp; omega)
    have hn2 := hS2'.next
    have hn4 := hS4.next
    have h4 := h2.same hS4 (fun w => by have := hb2' _ w; omega) (fun b hb w => by have := hb2' b w; have := h.sl.lt b hb; omega)
    have hq4 : q ∉ blks v4 := fun w => by
      rcases hb4 q w with z | z
      · have := hb2' q z; omega
      · omega
    rw [← rem_at hk hj hy] at hv4
    obtain ⟨σ5, t5, h5, hS5, hn5⟩ := h4.put hv4 hq4
    have hv4c : v4.cells = #[v4] := by obtain ⟨a4, c4, rfl, _⟩ := hv4.len; rfl
    simp (maxSteps := 2000000) only [B0, B1, B2, B3, B4, B5, B6, B7, Gd, extV, Nat.reduceLT, Nat.reduceEqDiff, Nat.reduceBEq, Nat.reduceAdd, Nat.reduceSub, Nat.reduceMul, ↓reduceIte, reduceCtorEq, if_true, if_false, ite_true, ite_false, Int.reduceLT, Int.reduceLE, ptr, callV_func Try.enters_108, Try.fa_45_0, Try.ld_43, Try.st_43, hneg,  hl0,  s1,  append_eq Try.underlying43 Try.underlying43 Try.elem_55 hf1,  t2,  h2.ld0,  hw,  s3,  append_eq Try.underlying43 Try.underlying43 Try.elem_55 hf3,  t4,  hv4c,  List.size_toArray,  t5, rs_tmp (show Try.f31.results = #[.tmp 4] from rfl)]
    refine hQ σ5 v4 h5 (fun b hb => ?_) (((hS2'.app hS4).app hS5).old fun b hb => ?_)
    · rcases hb4 b hb with z | z
      · exact .inr (hb2' b z)
      · exact .inr (by omega)
    · simp only [List.nil_append, List.mem_append, List.mem_singleton] at hb
      rcases hb with z | z
      · exact .inr (hb2' b z)
      · exact .inl (by simp [z])
theorem rat_run (f : Free8 orc) (h : RAt σ q v L) (hk : KD L) (k : ByteArray) (hn : L.length < n) (hN : L.length ≤ 1048575)
    (hQ : Q (.tuple #[.int .i64 ((getA k L).getD 0), .bool (getA k L).isSome], σ)) :
    W (acall Try.prog gs orc (n + 2) 34 [pt q, .string k] σ) Q := by
  have hl0 := h.ld0
  rw [W_start (m := 20) (keep := []) Try.func34 rfl (by kernel_rfl) (by kernel_rfl) (by first | rfl | assumption | exact f.h34) (by rfl)]
  simp (maxSteps := 2000000) only [B0, B1, B2, B3, B4, B5, B6, B7, Gd, extV, Nat.reduceLT, Nat.reduceEqDiff, Nat.reduceBEq, Nat.reduceAdd, Nat.reduceSub, Nat.reduceMul, ↓reduceIte, reduceCtorEq, if_true, if_false, ite_true, ite_false, Int.reduceLT, Int.reduceLE, ptr, callV_func Try.enters_108, Try.fa_45_0, Try.ld_43, Try.ia_43, Try.fa_55_1, Try.ld_2, rs_two (show Try.f34.results = #[.tmp 4,  .tmp 5] from rfl)]
  refine find_run f h k (by omega) (by omega) (fun hno => ?_) fun j y hj hy => ?_
  · rw [getA_none hno] at hQ
    simp (maxSteps := 2000000) only [B0, B1, B2, B3, B4, B5, B6, B7, Gd, extV, Nat.reduceLT, Nat.reduceEqDiff, Nat.reduceBEq, Nat.reduceAdd, Nat.reduceSub, Nat.reduceMul, ↓reduceIte, reduceCtorEq, if_true, if_false, ite_true, ite_false, Int.reduceLT, Int.reduceLE, ptr, callV_func Try.enters_108, Try.fa_45_0, Try.ld_43, Try.ia_43, Try.fa_55_1, Try.ld_2, show ((-1 : Int) < 0) = True from eq_true (by omega), rs_two (show Try.f34.results = #[.tmp 4,  .tmp 5] from rfl)]
    exact hQ
  · have hjl := (List.getElem?_eq_some_iff.1 hj).1
    have hg : getA k L = some y.2 := hy ▸ getA_mem hk (List.mem_of_getElem? hj)
    rw [hg] at hQ
    have hneg : ((j : Int) < 0) = False := eq_false (by omega)
    obtain ⟨b, o, cap, g, rfl, hcap, hbl, hr⟩ := h.sl.at_ hj
    have x1 := hr.ld (j := 1) hj rfl
    simp (maxSteps := 2000000) only [B0, B1, B2, B3, B4, B5, B6, B7, Gd, extV, Nat.reduceLT, Nat.reduceEqDiff, Nat.reduceBEq, Nat.reduceAdd, Nat.reduceSub, Nat.reduceMul, ↓reduceIte, reduceCtorEq, if_true, if_false, ite_true, ite_false, Int.reduceLT, Int.reduceLE, ptr, callV_func Try.enters_108, Try.fa_45_0, Try.ld_43, Try.ia_43, Try.fa_55_1, Try.ld_2, hneg,  hl0,  hjl,  x1, rs_two (show Try.f34.results = #[.tmp 4,  .tmp 5] from rfl)]
    exact hQ
end Go.Proofs.Ytongccpmdndcgaa.Alm
end
/- The document's alarms: Set, Due; the law's same. -/
section
set_option linter.all false
namespace Go.Proofs.Ytongccpmdndcgaa.Alm
open Go Go.AE Go.Hp Go.Sort Go.Proofs
set_option maxRecDepth 100000
set_option maxHeartbeats 1000000
attribute [local irreducible] Go.AE.Tr.put Go.AE.Tr.get
variable {gs : List Nat} {orc : Orc} {n : Nat} {σ : AHeap} {Q : Value × AHeap → Prop}
variable {q : Nat} {v : Value} {L : List Al}

theorem ins_before {x : Al} : ∀ {M : List Al} (N : List Al), (∀ y ∈ M, ¬ lt x y) → insA x (M ++ N) = M ++ insA x N
  | [], N, _ => rfl
  | y :: M, N, h => by
    rw [List.cons_append, insA, if_neg (h y (by simp)), ins_before N fun z hz => h z (by simp [hz])]; rfl
theorem ins_behind {x : Al} : ∀ {M : List Al} (N : List Al), (∃ y ∈ M, lt x y) → insA x (M ++ N) = insA x M ++ N
  | [], N, h => by obtain ⟨y, hy, _⟩ := h; cases hy
  | y :: M, N, h => by
    rw [List.cons_append, insA, insA]
    split
    · rfl
    · rename_i q
      rw [ins_behind N (by obtain ⟨z, hz, hl⟩ := h; rcases List.mem_cons.1 hz with rfl | hz; exact absurd hl q; exact ⟨z, hz, hl⟩)]; rfl
theorem b55 {s : ByteArray} {t : Int} : build' Try.prog 55 [(0, .string s), (1, .int .i64 t)] = some (.agg #[.string s, .int .i64 t]) := by kernel_rfl
theorem rset_run (f : Free8 orc) (h : RAt σ q v L) (hk : KD L) (k : ByteArray) (tm : Int) (hn : L.length < n) (hN : L.length ≤ 1000000)
    (hQ : ∀ σ' v', RAt σ' q v' (if bad k tm then L else setA k tm L) → (∀ b ∈ blks v', b ∈ blks v ∨ σ.next ≤ b) → Same σ σ' [q] → Q (.int .i64 (if bad k tm then 1 else 0), σ')) :
    W (acall Try.prog gs orc (n + 3) 29 [pt q, .string k, .int .i64 tm] σ) Q := by
  by_cases hb : bad k tm
  · have := hQ σ v (by rw [if_pos hb]; exact h) (fun b hb => .inl hb) (.refl _ _)
    rw [if_pos hb] at this
    rw [W_start (m := 88) (keep := []) Try.func29 rfl (by kernel_rfl) (by kernel_rfl) (by first | rfl | assumption | exact f.h29) (by rfl)]
    by_cases c1 : (k.size : Int) < 1
    · simp (maxSteps := 2000000) only [B0, B1, B2, B3, B4, B5, B6, B7, Gd, extV, Nat.reduceLT, Nat.reduceEqDiff, Nat.reduceBEq, Nat.reduceAdd, Nat.reduceSub, Nat.reduceMul, ↓reduceIte, reduceCtorEq, if_true, if_false, ite_true, ite_false, Int.reduceLT, Int.reduceLE, ptr, Try.len_9, callV_func Try.enters_31, Try.fa_45_0, Try.ld_43, Try.len_43, Try.ia_43, Try.ld_55, allocV_zero Try.zero_55, Try.st_55, Try.fa_55_1, Try.ld_2, Try.fa_55_0, Try.ld_9, Try.st_43, c1, rs_tmp (show Try.f29.results = #[.tmp 6] from rfl)]
      exact this
    · by_cases c2 : 64 < (k.size : Int)
      · simp (maxSteps := 2000000) only [B0, B1, B2, B3, B4, B5, B6, B7, Gd, extV, Nat.reduceLT, Nat.reduceEqDiff, Nat.reduceBEq, Nat.reduceAdd, Nat.reduceSub, Nat.reduceMul, ↓reduceIte, reduceCtorEq, if_true, if_false, ite_true, ite_false, Int.reduceLT, Int.reduceLE, ptr, Try.len_9, callV_func Try.enters_31, Try.fa_45_0, Try.ld_43, Try.len_43, Try.ia_43, Try.ld_55, allocV_zero Try.zero_55, Try.st_55, Try.fa_55_1, Try.ld_2, Try.fa_55_0, Try.ld_9, Try.st_43, c1,  c2, rs_tmp (show Try.f29.results = #[.tmp 6] from rfl)]
        exact this
      · by_cases c3 : tm < 0
        · simp (maxSteps := 2000000) only [B0, B1, B2, B3, B4, B5, B6, B7, Gd, extV, Nat.reduceLT, Nat.reduceEqDiff, Nat.reduceBEq, Nat.reduceAdd, Nat.reduceSub, Nat.reduceMul, ↓reduceIte, reduceCtorEq, if_true, if_false, ite_true, ite_false, Int.reduceLT, Int.reduceLE, ptr, Try.len_9, callV_func Try.enters_31, Try.fa_45_0, Try.ld_43, Try.len_43, Try.ia_43, Try.ld_55, allocV_zero Try.zero_55, Try.st_55, Try.fa_55_1, Try.ld_2, Try.fa_55_0, Try.ld_9, Try.st_43, c1,  c2,  c3, rs_tmp (show Try.f29.results = #[.tmp 6] from rfl)]
          exact this
        · have c4 : 1099511627776 < tm := by unfold bad at hb; omega
          simp (maxSteps := 2000000) only [B0, B1, B2, B3, B4, B5, B6, B7, Gd, extV, Nat.reduceLT, Nat.reduceEqDiff, Nat.reduceBEq, Nat.reduceAdd, Nat.reduceSub, Nat.reduceMul, ↓reduceIte, reduceCtorEq, if_true, if_false, ite_true, ite_false, Int.reduceLT, Int.reduceLE, ptr, Try.len_9, callV_func Try.enters_31, Try.fa_45_0, Try.ld_43, Try.len_43, Try.ia_43, Try.ld_55, allocV_zero Try.zero_55, Try.st_55, Try.fa_55_1, Try.ld_2, Try.fa_55_0, Try.ld_9, Try.st_43, c1,  c2,  c3,  c4, rs_tmp (show Try.f29.results = #[.tmp 6] from rfl)]
          exact this
  · simp only [if_neg hb] at hQ
    have c1 : ((k.size : Int) < 1) = False := eq_false (by unfold bad at hb; omega)
    have c2 : ((64 : Int) < (k.size : Int)) = False := eq_false (by unfold bad at hb; omega)
    have c3 : (tm < 0) = False := eq_false (by unfold bad at hb; omega)
    have c4 : ((1099511627776 : Int) < tm) = False := eq_false (by unfold bad at hb; omega)
    rw [W_start (m := 88) (keep := []) Try.func29 rfl (by kernel_rfl) (by kernel_rfl) (by first | rfl | assumption | exact f.h29) (by rfl)]
    simp (maxSteps := 2000000) only [B0, B1, B2, B3, B4, B5, B6, B7, Gd, extV, Nat.reduceLT, Nat.reduceEqDiff, Nat.reduceBEq, Nat.reduceAdd, Nat.reduceSub, Nat.reduceMul, ↓reduceIte, reduceCtorEq, if_true, if_false, ite_true, ite_false, Int.reduceLT, Int.reduceLE, ptr, Try.len_9, callV_func Try.enters_31, Try.fa_45_0, Try.ld_43, Try.len_43, Try.ia_43, Try.ld_55, allocV_zero Try.zero_55, Try.st_55, Try.fa_55_1, Try.ld_2, Try.fa_55_0, Try.ld_9, Try.st_43, c1,  c2,  c3,  c4, rs_tmp (show Try.f29.results = #[.tmp 6] from rfl)]
    refine rdrop_run f h hk k (by omega) (by omega) fun σ1 v1 h1 hb1 hS1 => ?_
    have hset : setA k tm L = insA (k, tm) (remA k L) := rfl
    rw [hset] at hQ
    have hl1 : (remA k L).length ≤ L.length := List.length_filter_le _ _
    generalize remA k L = M at *
    have hn1 := hS1.next
    have hqn := h.obj.1
    have hvl := h.sl.lt
    obtain ⟨a1, k1, rfl, hk1⟩ := h1.sl.len
    have h1lt := h1.sl.lt
    simp (maxSteps := 2000000) only [B0, B1, B2, B3, B4, B5, B6, B7, Gd, extV, Nat.reduceLT, Nat.reduceEqDiff, Nat.reduceBEq, Nat.reduceAdd, Nat.reduceSub, Nat.reduceMul, ↓reduceIte, reduceCtorEq, if_true, if_false, ite_true, ite_false, Int.reduceLT, Int.reduceLE, ptr, Try.len_9, callV_func Try.enters_31, Try.fa_45_0, Try.ld_43, Try.len_43, Try.ia_43, Try.ld_55, allocV_zero Try.zero_55, Try.st_55, Try.fa_55_1, Try.ld_2, Try.fa_55_0, Try.ld_9, Try.st_43, rs_tmp (show Try.f29.results = #[.tmp 6] from rfl)]
    refine W_inv (fun m fr σ' => ∃ (t : Tr Value) (i : Nat) (c : Bool) (vo : Value), fr = ⟨88, t⟩ ∧ t.get 0 = some (pt q) ∧ t.get 1 = some (.string k) ∧ t.get 2 = some (.int .i64 tm) ∧ t.get 7 = some vo ∧ t.get 8 = some (.bool c) ∧ t.get 9 = some (.int .i64 (i : Int)) ∧ m + i = M.length ∧ SlAt σ' 55 2 encA vo (if c then insA (k, tm) (M.take i) else M.take i) ∧ (∀ b ∈ blks vo, σ1.next ≤ b) ∧ (c = false → ∀ y ∈ M.take i, ¬ lt (k, tm) y) ∧ (c = true → ∃ y ∈ M.take i, lt (k, tm) y) ∧ Same σ1 σ' []) M.length (by omega)
      ⟨_, 0, false, .slice none 0 0, rfl, by simp [get_put, get_args], by simp [get_put, get_args], by simp [get_put, get_args], by simp [get_put], by simp [get_put], by simp [get_put], rfl, .inl ⟨rfl, by simp⟩, nofun, (fun _ y hy => by simp at hy), nofun, .refl _ _⟩ ?_
    rintro m fr σ2 ⟨t, i, c, vo, rfl, t0, t1, t2, t7, t8, t9, hm, hvo, hbo, hc0, hc1, hS2⟩
    have h2 := h1.same hS2 nofun nofun
    have hn2 := hS2.next
    generalize hOe : (if c = true then insA (k, tm) (M.take i) else M.take i) = O at hvo
    by_cases hlt : i < M.length
    · have hx := List.getElem?_eq_getElem hlt
      have htk : M.take (i + 1) = M.take i ++ [M[i]] := by rw [List.take_add_one, hx]; rfl
      generalize M[i] = y at hx htk
      obtain ⟨b, o, cap, g, e, hcap, hbl, hr⟩ := h2.sl.at_ hx
      injection e with e _ e3
      subst e e3
      have hld := hr.ldCells encOk hx
      obtain ⟨σ3, σ4, e3, t4, hS4, v4, hn4, _⟩ := AE.newVar σ2 55 [.string ⟨#[]⟩, .int .i64 0] (encA y) rfl (encOk.single y)
      have y0 : ld σ4 σ2.next 0 = some (.string y.1) := v4.ld rfl
      have y1 : ld σ4 σ2.next 1 = some (.int .i64 y.2) := v4.ld rfl
      have yl : ldCells σ4 σ2.next 0 2 = some (encA y) := v4.ldCells
      have hvo4 := hvo.same hS4 nofun
      have hvolt := hvo.lt
      have hlt' : (i : Int) < (M.length : Int) := by omega
      have hw1 : IntKind.i64.wrap ((i : Int) + 1) = ((i + 1 : Nat) : Int) := wrap64 (by omega) (by omega)
      have hlq : lt (k, tm) y ↔ tm < y.2 ∨ tm = y.2 ∧ sLt k y.1 = true := lt_iff
      simp only [encA] at hld t4 yl
      obtain ⟨ao, co, rfl, hco⟩ := hvo4.len
      have htl : (M.take i).length = i := by rw [List.length_take]; omega
      by_cases hc : c = true ∨ ¬ lt (k, tm) y
      · have hO : (if c then insA (k, tm) (M.take (i + 1)) else M.take (i + 1)) = O ++ [y] := by
          rw [← hOe]
          cases c with
          | true => rw [htk]; exact ins_behind _ (hc1 rfl)
          | false => exact htk
        have hol : O.length ≤ 1000001 := by
          rw [← hOe]
          cases c with
          | true => rw [if_pos rfl, (insA_perm _ _).length_eq, List.length_cons, htl]; omega
          | false => simp only [Bool.false_eq_true, if_false, htl]; omega
        obtain ⟨σ6, v7, σ7, hbs, hap, hv7, hS7, hb7, hS6, hn7⟩ := append_one encOk Try.underlying43 Try.underlying43 Try.elem_55 rfl (by decide) hvo4 y (xv := .agg #[.string y.1, .int .i64 y.2]) rfl (by omega)
        have l6 : ldCells σ6 σ2.next 0 2 = some [.string y.1, .int .i64 y.2] := (v4.same hS6 nofun).ldCells
        rw [← hO] at hv7
        have hbv : ∀ b ∈ blks v7, σ1.next ≤ b := fun b hb => by rcases hb7 b hb with w | w; exact hbo b w; omega
        have hSf : Same σ1 σ7 [] := ((hS2.app hS4).app hS7).old fun b hb => by simp only [List.nil_append, List.append_nil] at hb; exact .inr (hbo b hb)
        have hc0' : c = false → ∀ z ∈ M.take (i + 1), ¬ lt (k, tm) z := fun e z hz => by
          rw [htk] at hz
          rcases List.mem_append.1 hz with hz | hz
          · exact hc0 e z hz
          · simp at hz; subst hz; rcases hc with w | w
            · rw [e] at w; cases w
            · exact w
        have hc1' : c = true → ∃ z ∈ M.take (i + 1), lt (k, tm) z := fun e => by obtain ⟨z, hz, hl⟩ := hc1 e; exact ⟨z, by rw [htk]; exact List.mem_append_left _ hz, hl⟩
        cases c with
        | true =>
          simp (maxSteps := 2000000) only [B0, B1, B2, B3, B4, B5, B6, B7, Gd, extV, Nat.reduceLT, Nat.reduceEqDiff, Nat.reduceBEq, Nat.reduceAdd, Nat.reduceSub, Nat.reduceMul, ↓reduceIte, reduceCtorEq, if_true, if_false, ite_true, ite_false, Int.reduceLT, Int.reduceLE, ptr, Try.len_9, callV_func Try.enters_31, Try.fa_45_0, Try.ld_43, Try.len_43, Try.ia_43, Try.ld_55, allocV_zero Try.zero_55, Try.st_55, Try.fa_55_1, Try.ld_2, Try.fa_55_0, Try.ld_9, Try.st_43, yl,  hbs,  hap, t0,  t1,  t2,  t7,  t8,  t9,  h2.ld0,  hlt',  hlt,  hld,  e3,  t4,  y0,  y1,  Value.cells,  List.size_toArray,  hw1,  KInv_normal,  sgt_eq, rs_tmp (show Try.f29.results = #[.tmp 6] from rfl)]
          exact ⟨M.length - (i + 1), by omega, _, i + 1, true, v7, rfl, by simp [get_put, t0], by simp [get_put, t1], by simp [get_put, t2], by simp [get_put], by simp [get_put, t8], by simp [get_put], by omega, hv7, hbv, hc0', hc1', hSf⟩
        | false =>
          have hnl : ¬ lt (k, tm) y := by rcases hc with w | w; cases w; exact w
          rw [hlq] at hnl
          have d1 : (tm < y.2) = False := eq_false fun w => hnl (.inl w)
          by_cases d2 : y.2 = tm
          · have d3 : sLt k y.1 = false := by cases hs : sLt k y.1 with | false => rfl | true => exact absurd (.inr ⟨d2.symm, hs⟩) hnl
            have d2' : (y.2 = tm) = True := eq_true d2
            simp (maxSteps := 2000000) only [B0, B1, B2, B3, B4, B5, B6, B7, Gd, extV, Nat.reduceLT, Nat.reduceEqDiff, Nat.reduceBEq, Nat.reduceAdd, Nat.reduceSub, Nat.reduceMul, ↓reduceIte, reduceCtorEq, if_true, if_false, ite_true, ite_false, Int.reduceLT, Int.reduceLE, ptr, Try.len_9, callV_func Try.enters_31, Try.fa_45_0, Try.ld_43, Try.len_43, Try.ia_43, Try.ld_55, allocV_zero Try.zero_55, Try.st_55, Try.fa_55_1, Try.ld_2, Try.fa_55_0, Try.ld_9, Try.st_43, yl,  hbs,  hap,  d1,  d2',  d3, t0,  t1,  t2,  t7,  t8,  t9,  h2.ld0,  hlt',  hlt,  hld,  e3,  t4,  y0,  y1,  Value.cells,  List.size_toArray,  hw1,  KInv_normal,  sgt_eq, rs_tmp (show Try.f29.results = #[.tmp 6] from rfl)]
            exact ⟨M.length - (i + 1), by omega, _, i + 1, false, v7, rfl, by simp [get_put, t0], by simp [get_put, t1], by simp [get_put, t2], by simp [get_put], by simp [get_put, t8], by simp [get_put], by omega, hv7, hbv, hc0', hc1', hSf⟩
          · have d2' : (y.2 = tm) = False := eq_false d2
            simp (maxSteps := 2000000) only [B0, B1, B2, B3, B4, B5, B6, B7, Gd, extV, Nat.reduceLT, Nat.reduceEqDiff, Nat.reduceBEq, Nat.reduceAdd, Nat.reduceSub, Nat.reduceMul, ↓reduceIte, reduceCtorEq, if_true, if_false, ite_true, ite_false, Int.reduceLT, Int.reduceLE, ptr, Try.len_9, callV_func Try.enters_31, Try.fa_45_0, Try.ld_43, Try.len_43, Try.ia_43, Try.ld_55, allocV_zero Try.zero_55, Try.st_55, Try.fa_55_1, Try.ld_2, Try.fa_55_0, Try.ld_9, Try.st_43, yl,  hbs,  hap,  d1,  d2', t0,  t1,  t2,  t7,  t8,  t9,  h2.ld0,  hlt',  hlt,  hld,  e3,  t4,  y0,  y1,  Value.cells,  List.size_toArray,  hw1,  KInv_normal,  sgt_eq, rs_tmp (show Try.f29.results = #[.tmp 6] from rfl)]
            exact ⟨M.length - (i + 1), by omega, _, i + 1, false, v7, rfl, by simp [get_put, t0], by simp [get_put, t1], by simp [get_put, t2], by simp [get_put], by simp [get_put, t8], by simp [get_put], by omega, hv7, hbv, hc0', hc1', hSf⟩
      · have hcf : c = false := by cases c with | false => rfl | true => exact absurd (.inl rfl) hc
        subst hcf
        have hl : lt (k, tm) y := Classical.byContradiction fun w => hc (.inr w)
        simp only [Bool.false_eq_true, if_false] at hOe
        subst hOe
        have hO : insA (k, tm) (M.take (i + 1)) = (M.take i ++ [(k, tm)]) ++ [y] := by
          rw [htk, ins_before _ (hc0 rfl), insA, if_pos hl, List.append_assoc]; rfl
        obtain ⟨σ5, v5, σ5', hbs5, hap5, hv5, hS5, hb5, hS5', hn5⟩ := append_one encOk Try.underlying43 Try.underlying43 Try.elem_55 rfl (by decide) hvo4 (k, tm) (xv := .agg #[.string k, .int .i64 tm]) rfl (by rw [htl]; omega)
        have hb5' : ∀ b ∈ blks v5, σ1.next ≤ b := fun b hb => by rcases hb5 b hb with w | w; exact hbo b w; omega
        obtain ⟨a5, c5, rfl, hc5⟩ := hv5.len
        obtain ⟨σ6, v7, σ7, hbs, hap, hv7, hS7, hb7, hS6, hn7⟩ := append_one encOk Try.underlying43 Try.underlying43 Try.elem_55 rfl (by decide) hv5 y (xv := .agg #[.string y.1, .int .i64 y.2]) rfl (by simp; omega)
        have hx5 : σ2.next ∉ blks (.slice ao (M.take i).length co) := fun w => by have := hvolt _ w; omega
        have l5 : ldCells σ5' σ2.next 0 2 = some [.string y.1, .int .i64 y.2] := (v4.same hS5 hx5).ldCells
        rw [← hO] at hv7
        have hbv : ∀ b ∈ blks v7, σ1.next ≤ b := fun b hb => by rcases hb7 b hb with w | w; exact hb5' b w; omega
        have hSf : Same σ1 σ7 [] := (((hS2.app hS4).app hS5).app hS7).old fun b hb => by
          simp only [List.nil_append, List.append_nil, List.mem_append] at hb
          rcases hb with w | w
          · exact .inr (hbo b w)
          · exact .inr (hb5' b w)
        have hc1' : ∃ z ∈ M.take (i + 1), lt (k, tm) z := ⟨y, by rw [htk]; simp, hl⟩
        have fin : SlAt σ7 55 2 encA v7 (if true = true then insA (k, tm) (M.take (i + 1)) else M.take (i + 1)) := by rw [if_pos rfl]; exact hv7
        have hl' := hlq.1 hl
        by_cases d1 : tm < y.2
        · have d1' : (tm < y.2) = True := eq_true d1
          simp (maxSteps := 2000000) only [B0, B1, B2, B3, B4, B5, B6, B7, Gd, extV, Nat.reduceLT, Nat.reduceEqDiff, Nat.reduceBEq, Nat.reduceAdd, Nat.reduceSub, Nat.reduceMul, ↓reduceIte, reduceCtorEq, if_true, if_false, ite_true, ite_false, Int.reduceLT, Int.reduceLE, ptr, Try.len_9, callV_func Try.enters_31, Try.fa_45_0, Try.ld_43, Try.len_43, Try.ia_43, Try.ld_55, allocV_zero Try.zero_55, Try.st_55, Try.fa_55_1, Try.ld_2, Try.fa_55_0, Try.ld_9, Try.st_43, b55,  hbs5,  hap5,  l5,  hbs,  hap,  d1', t0,  t1,  t2,  t7,  t8,  t9,  h2.ld0,  hlt',  hlt,  hld,  e3,  t4,  y0,  y1,  Value.cells,  List.size_toArray,  hw1,  KInv_normal,  sgt_eq, rs_tmp (show Try.f29.results = #[.tmp 6] from rfl)]
          exact ⟨M.length - (i + 1), by omega, _, i + 1, true, v7, rfl, by simp [get_put, t0], by simp [get_put, t1], by simp [get_put, t2], by simp [get_put], by simp [get_put], by simp [get_put], by omega, fin, hbv, nofun, (fun _ => hc1'), hSf⟩
        · have d1' : (tm < y.2) = False := eq_false d1
          obtain ⟨d2, d3⟩ : tm = y.2 ∧ sLt k y.1 = true := by rcases hl' with w | w; exact absurd w d1; exact w
          have d2' : (y.2 = tm) = True := eq_true d2.symm
          simp (maxSteps := 2000000) only [B0, B1, B2, B3, B4, B5, B6, B7, Gd, extV, Nat.reduceLT, Nat.reduceEqDiff, Nat.reduceBEq, Nat.reduceAdd, Nat.reduceSub, Nat.reduceMul, ↓reduceIte, reduceCtorEq, if_true, if_false, ite_true, ite_false, Int.reduceLT, Int.reduceLE, ptr, Try.len_9, callV_func Try.enters_31, Try.fa_45_0, Try.ld_43, Try.len_43, Try.ia_43, Try.ld_55, allocV_zero Try.zero_55, Try.st_55, Try.fa_55_1, Try.ld_2, Try.fa_55_0, Try.ld_9, Try.st_43, b55,  hbs5,  hap5,  l5,  hbs,  hap,  d1',  d2',  d3, t0,  t1,  t2,  t7,  t8,  t9,  h2.ld0,  hlt',  hlt,  hld,  e3,  t4,  y0,  y1,  Value.cells,  List.size_toArray,  hw1,  KInv_normal,  sgt_eq, rs_tmp (show Try.f29.results = #[.tmp 6] from rfl)]
          exact ⟨M.length - (i + 1), by omega, _, i + 1, true, v7, rfl, by simp [get_put, t0], by simp [get_put, t1], by simp [get_put, t2], by simp [get_put], by simp [get_put], by simp [get_put], by omega, fin, hbv, nofun, (fun _ => hc1'), hSf⟩
    · have hlt' : ((i : Int) < (M.length : Int)) = False := eq_false (by omega)
      have htk : M.take i = M := List.take_of_length_le (by omega)
      rw [htk] at hOe hc0 hc1
      have hvolt := hvo.lt
      cases c with
      | true =>
        simp only [if_true] at hOe
        subst hOe
        have hqv : q ∉ blks vo := fun w => by have := hbo q w; have := h1.obj.1; omega
        obtain ⟨ao, co, rfl, hco⟩ := hvo.len
        obtain ⟨σ5, t5, h5, hS5, hn5⟩ := h2.put hvo hqv
        simp (maxSteps := 2000000) only [B0, B1, B2, B3, B4, B5, B6, B7, Gd, extV, Nat.reduceLT, Nat.reduceEqDiff, Nat.reduceBEq, Nat.reduceAdd, Nat.reduceSub, Nat.reduceMul, ↓reduceIte, reduceCtorEq, if_true, if_false, ite_true, ite_false, Int.reduceLT, Int.reduceLE, ptr, Try.len_9, callV_func Try.enters_31, Try.fa_45_0, Try.ld_43, Try.len_43, Try.ia_43, Try.ld_55, allocV_zero Try.zero_55, Try.st_55, Try.fa_55_1, Try.ld_2, Try.fa_55_0, Try.ld_9, Try.st_43, t0,  t1,  t2,  t7,  t8,  t9,  h2.ld0,  hlt',  Value.cells,  List.size_toArray,  t5, rs_tmp (show Try.f29.results = #[.tmp 6] from rfl)]
        exact hQ σ5 _ h5 (fun b hb => .inr (by have := hbo b hb; omega)) (((hS1.app hS2).app hS5).old fun b hb => by simp at hb; exact .inl (by simp [hb]))
      | false =>
        simp only [Bool.false_eq_true, if_false] at hOe
        subst hOe
        obtain ⟨ao, co, rfl, hco⟩ := hvo.len
        obtain ⟨σ3, v3, σ4, hbs, hap, hv4, hS4, hb4, hS3, hn4⟩ := append_one encOk Try.underlying43 Try.underlying43 Try.elem_55 rfl (by decide) hvo (k, tm) (xv := .agg #[.string k, .int .i64 tm]) rfl (by omega)
        have hO : insA (k, tm) M = M ++ [(k, tm)] := by have := ins_before (x := (k, tm)) (M := M) [] (hc0 rfl); simpa [insA] using this
        rw [← hO] at hv4
        have hbv : ∀ b ∈ blks v3, σ1.next ≤ b := fun b hb => by rcases hb4 b hb with w | w; exact hbo b w; omega
        have hqv : q ∉ blks v3 := fun w => by have := hbv q w; have := h1.obj.1; omega
        have h4 := h2.same hS4 (fun w => by have := hbo q w; have := h1.obj.1; omega) (fun b hb w => by have := hbo b w; have := h1lt b hb; omega)
        obtain ⟨av, cv, rfl, hcv⟩ := hv4.len
        obtain ⟨σ5, t5, h5, hS5, hn5⟩ := h4.put hv4 hqv
        simp (maxSteps := 2000000) only [B0, B1, B2, B3, B4, B5, B6, B7, Gd, extV, Nat.reduceLT, Nat.reduceEqDiff, Nat.reduceBEq, Nat.reduceAdd, Nat.reduceSub, Nat.reduceMul, ↓reduceIte, reduceCtorEq, if_true, if_false, ite_true, ite_false, Int.reduceLT, Int.reduceLE, ptr, Try.len_9, callV_func Try.enters_31, Try.fa_45_0, Try.ld_43, Try.len_43, Try.ia_43, Try.ld_55, allocV_zero Try.zero_55, Try.st_55, Try.fa_55_1, Try.ld_2, Try.fa_55_0, Try.ld_9, Try.st_43, t0,  t1,  t2,  t7,  t8,  t9,  h2.ld0,  hlt',  b55,  hbs,  hap,  Value.cells,  List.size_toArray,  t5, rs_tmp (show Try.f29.results = #[.tmp 6] from rfl)]
        exact hQ σ5 _ h5 (fun b hb => .inr (by have := hbv b hb; omega)) ((((hS1.app hS2).app hS4).app hS5).old fun b hb => by
          simp only [List.append_nil, List.mem_append, List.mem_singleton] at hb
          rcases hb with (hb | hb) | hb
          · exact .inl (by simp [hb])
          · exact .inr (by have := hbo b hb; omega)
          · exact .inl (by simp [hb]))
end Go.Proofs.Ytongccpmdndcgaa.Alm
end
/- The document's alarms: Due; the law's same. -/
section
set_option linter.all false
namespace Go.Proofs.Ytongccpmdndcgaa.Alm
open Go Go.AE Go.Hp Go.Sort Go.Proofs
set_option maxRecDepth 100000
set_option maxHeartbeats 1000000
attribute [local irreducible] Go.AE.Tr.put Go.AE.Tr.get
variable {gs : List Nat} {orc : Orc} {n : Nat} {σ : AHeap} {Q : Value × AHeap → Prop}
variable {q : Nat} {v : Value} {L : List Al}

theorem due_take {t : Int} : ∀ {L : List Al} {i : Nat}, i ≤ L.length → (∀ y ∈ L.take i, y.2 ≤ t) → (∀ y, L[i]? = some y → t < y.2) → due t L = L.take i ∧ left t L = L.drop i
  | [], i, hi, _, _ => by simp [due, left]
  | y :: l, 0, _, _, h => by
    have := h y rfl
    have q : ¬ y.2 ≤ t := by omega
    exact ⟨by unfold due; rw [List.takeWhile_cons_of_neg (by simpa using q)]; rfl, by unfold left; rw [List.dropWhile_cons_of_neg (by simpa using q)]; rfl⟩
  | y :: l, i + 1, hi, h1, h2 => by
    have q : y.2 ≤ t := h1 y (by simp)
    obtain ⟨e1, e2⟩ := due_take (L := l) (i := i) (by simpa using hi) (fun z hz => h1 z (by simp [hz])) (fun z hz => h2 z (by simpa using hz))
    exact ⟨by unfold due at *; rw [List.takeWhile_cons_of_pos (by simpa using q), e1]; rfl, by unfold left at *; rw [List.dropWhile_cons_of_pos (by simpa using q), e2]; rfl⟩
theorem rdue_run (f : Free8 orc) (h : RAt σ q v L) (now : Int) (hn : L.length < n) (hN : L.length ≤ 1048576)
    (hQ : ∀ σ' v1 v2, RAt σ' q v2 (left now L) → SlAt σ' 55 2 encA v1 (due now L) → (∀ b ∈ blks v1, b ∈ blks v) → (∀ b ∈ blks v2, b ∈ blks v) → Same σ σ' [q] → Q (v1, σ')) :
    W (acall Try.prog gs orc (n + 1) 33 [pt q, .int .i64 now] σ) Q := by
  obtain ⟨a, c, rfl, hc⟩ := h.sl.len
  have hl0 := h.ld0
  rw [W_start (m := 44) (keep := []) Try.func33 rfl (by kernel_rfl) (by kernel_rfl) (by first | rfl | assumption | exact f.h33) (by rfl)]
  simp (maxSteps := 2000000) only [B0, B1, B2, B3, B4, B5, B6, B7, Gd, extV, Nat.reduceLT, Nat.reduceEqDiff, Nat.reduceBEq, Nat.reduceAdd, Nat.reduceSub, Nat.reduceMul, ↓reduceIte, reduceCtorEq, if_true, if_false, ite_true, ite_false, Int.reduceLT, Int.reduceLE, ptr, Try.fa_45_0, Try.ld_43, Try.len_43, Try.ia_43, Try.fa_55_1, Try.ld_2, Try.st_43, rs_tmp (show Try.f33.results = #[.tmp 4] from rfl)]
  refine W_inv (fun m fr σ' => σ' = σ ∧ ∃ (t : Tr Value) (i : Nat), fr = ⟨44, t⟩ ∧ t.get 0 = some (pt q) ∧ t.get 1 = some (.int .i64 now) ∧ t.get 5 = some (.int .i64 (i : Int)) ∧ m + i = L.length ∧ ∀ y ∈ L.take i, y.2 ≤ now) L.length (by omega)
    ⟨rfl, _, 0, rfl, by simp [get_put, get_args], by simp [get_put, get_args], by simp [get_put], rfl, fun y hy => by simp at hy⟩ ?_
  rintro m fr σ1 ⟨rfl, t, i, rfl, t0, t1, t5, hm, hb⟩
  by_cases hgo : ∃ y, L[i]? = some y ∧ y.2 ≤ now
  · obtain ⟨x, hx, hle⟩ := hgo
    have hlt := (List.getElem?_eq_some_iff.1 hx).1
    obtain ⟨b, o, cap, g, e, hcap, hbl, hr⟩ := h.sl.at_ hx
    injection e with e _ e3
    subst e e3
    have x1 := hr.ld (j := 1) hx rfl
    have hlt' : (i : Int) < (L.length : Int) := by omega
    have hw1 : IntKind.i64.wrap ((i : Int) + 1) = ((i + 1 : Nat) : Int) := wrap64 (by omega) (by omega)
    simp (maxSteps := 2000000) only [B0, B1, B2, B3, B4, B5, B6, B7, Gd, extV, Nat.reduceLT, Nat.reduceEqDiff, Nat.reduceBEq, Nat.reduceAdd, Nat.reduceSub, Nat.reduceMul, ↓reduceIte, reduceCtorEq, if_true, if_false, ite_true, ite_false, Int.reduceLT, Int.reduceLE, ptr, Try.fa_45_0, Try.ld_43, Try.len_43, Try.ia_43, Try.fa_55_1, Try.ld_2, Try.st_43, t0,  t1,  t5,  hl0,  hlt',  hlt,  x1,  hle,  hw1,  KInv_normal, rs_tmp (show Try.f33.results = #[.tmp 4] from rfl)]
    refine ⟨L.length - (i + 1), by omega, _, i + 1, rfl, by simp [get_put, t0], by simp [get_put, t1], by simp [get_put], by omega, fun y hy => ?_⟩
    rw [List.take_add_one, hx] at hy
    rcases List.mem_append.1 hy with hy | hy
    · exact hb y hy
    · simp at hy; subst hy; exact hle
  · have hi : i ≤ L.length := by omega
    have hstop : ∀ y, L[i]? = some y → now < y.2 := fun y hy => by
      have : ¬ y.2 ≤ now := fun w => hgo ⟨y, hy, w⟩
      omega
    obtain ⟨e1, e2⟩ := due_take hi hb hstop
    rw [e1, e2] at hQ
    obtain ⟨v1, s1, hv1, hb1⟩ := slice_take (kk := .i64) Try.underlying43 Try.size_55 h.sl hi
    obtain ⟨v2, s2, hv2, hb2⟩ := slice_drop (kk := .i64) Try.underlying43 Try.size_55 h.sl hi
    obtain ⟨σ3, t3, h3, hS3, hn3⟩ := h.put hv2 (fun w => h.qv (hb2 q w))
    have hv1' := hv1.same hS3 (fun b hb w => by simp at w; exact h.qv (w ▸ hb1 b hb))
    have hv2c : v2.cells = #[v2] := by obtain ⟨a4, c4, rfl, _⟩ := hv2.len; rfl
    by_cases hlt : i < L.length
    · have hx := List.getElem?_eq_getElem hlt
      have hxs := hstop _ hx
      generalize L[i] = x at hx hxs
      obtain ⟨b, o, cap, g, e, hcap, hbl, hr⟩ := h.sl.at_ hx
      injection e with e _ e3
      subst e e3
      have x1 := hr.ld (j := 1) hx rfl
      have hlt' : (i : Int) < (L.length : Int) := by omega
      have hle : (x.2 ≤ now) = False := eq_false (by omega)
      simp (maxSteps := 2000000) only [B0, B1, B2, B3, B4, B5, B6, B7, Gd, extV, Nat.reduceLT, Nat.reduceEqDiff, Nat.reduceBEq, Nat.reduceAdd, Nat.reduceSub, Nat.reduceMul, ↓reduceIte, reduceCtorEq, if_true, if_false, ite_true, ite_false, Int.reduceLT, Int.reduceLE, ptr, Try.fa_45_0, Try.ld_43, Try.len_43, Try.ia_43, Try.fa_55_1, Try.ld_2, Try.st_43, t0,  t1,  t5,  hl0,  hlt',  hlt,  x1,  hle,  s1,  s2,  hv2c,  List.size_toArray,  t3, rs_tmp (show Try.f33.results = #[.tmp 4] from rfl)]
      exact hQ σ3 v1 v2 h3 hv1' hb1 hb2 hS3
    · have hlt' : ((i : Int) < (L.length : Int)) = False := eq_false (by omega)
      simp (maxSteps := 2000000) only [B0, B1, B2, B3, B4, B5, B6, B7, Gd, extV, Nat.reduceLT, Nat.reduceEqDiff, Nat.reduceBEq, Nat.reduceAdd, Nat.reduceSub, Nat.reduceMul, ↓reduceIte, reduceCtorEq, if_true, if_false, ite_true, ite_false, Int.reduceLT, Int.reduceLE, ptr, Try.fa_45_0, Try.ld_43, Try.len_43, Try.ia_43, Try.fa_55_1, Try.ld_2, Try.st_43, t0,  t1,  t5,  hl0,  hlt',  s1,  s2,  hv2c,  List.size_toArray,  t3, rs_tmp (show Try.f33.results = #[.tmp 4] from rfl)]
      exact hQ σ3 v1 v2 h3 hv1' hb1 hb2 hS3
theorem eqV_al55 (x y : Al) : eqV Try.prog 55 (alV x) (alV y) = some (decide (x = y)) := by
  unfold alV
  rw [eqV_agg (fs := [_, _]) Try.underlying55 (by kernel_rfl) (by intro f hf; simp at hf; rcases hf with rfl | rfl <;> simp) rfl rfl]
  have ha : isAgg' Try.prog 9 = some false := by kernel_rfl
  have hb : isAgg' Try.prog 2 = some false := by kernel_rfl
  simp only [eqFs, part_cell ha (show #[Value.string x.1, .int .i64 x.2][0]? = some (.string x.1) from rfl), part_cell ha (show #[Value.string y.1, .int .i64 y.2][0]? = some (.string y.1) from rfl), part_cell hb (show #[Value.string x.1, .int .i64 x.2][1]? = some (.int .i64 x.2) from rfl), part_cell hb (show #[Value.string y.1, .int .i64 y.2][1]? = some (.int .i64 y.2) from rfl), eq_str Try.underlying9, eq_int Try.underlying2]
  obtain ⟨a, s⟩ := x
  obtain ⟨b, t⟩ := y
  simp only [Prod.mk.injEq]
  by_cases h1 : a = b <;> by_cases h2 : s = t <;> simp [h1, h2]
theorem bin_al55 {x y : Operand} {a : ByteArray} {b : Int} : bin Try.prog .neq 55 x y (.agg #[.string a, .int .i64 b]) (.agg #[.string a, .int .i64 b]) = some (.bool false) := by
  have := bin_agg_ne (P := Try.prog) (t := 55) (x := x) (y := y) (by kernel_rfl) (eqV_al55 (a, b) (a, b))
  simpa [alV] using this
theorem same_run (ho : orc 32 = none) {va vb : Value} (ha : SlAt σ 32 2 encA va L) (hb : SlAt σ 55 2 encA vb L) (hn : L.length < n) (hN : L.length ≤ 1048576)
    (hQ : Q (.bool true, σ)) : W (acall Try.prog gs orc (n + 1) 32 [va, vb] σ) Q := by
  obtain ⟨a, c, rfl, hc⟩ := ha.len
  obtain ⟨a', c', rfl, hc'⟩ := hb.len
  rw [W_start (m := 26) (keep := []) Try.func32 rfl (by kernel_rfl) (by kernel_rfl) (by first | rfl | assumption | exact f.h32) (by rfl)]
  simp (maxSteps := 2000000) only [B0, B1, B2, B3, B4, B5, B6, B7, Gd, extV, Nat.reduceLT, Nat.reduceEqDiff, Nat.reduceBEq, Nat.reduceAdd, Nat.reduceSub, Nat.reduceMul, ↓reduceIte, reduceCtorEq, if_true, if_false, ite_true, ite_false, Int.reduceLT, Int.reduceLE, ptr, Try.len_27, Try.len_43, Try.ia_27, Try.ld_32, Try.ia_43, Try.ld_55, rs_tmp (show Try.f32.results = #[.tmp 4] from rfl)]
  refine W_inv (fun m fr σ' => σ' = σ ∧ ∃ (t : Tr Value) (i : Nat), fr = ⟨26, t⟩ ∧ t.get 0 = some (.slice a L.length c) ∧ t.get 1 = some (.slice a' L.length c') ∧ t.get 5 = some (.int .i64 (i : Int)) ∧ m + i = L.length) L.length (by omega)
    ⟨rfl, _, 0, rfl, by simp [get_put, get_args], by simp [get_put, get_args], by simp [get_put], rfl⟩ ?_
  rintro m fr σ1 ⟨rfl, t, i, rfl, t0, t1, t5, hm⟩
  by_cases hlt : i < L.length
  · have hx := List.getElem?_eq_getElem hlt
    generalize L[i] = x at hx
    obtain ⟨b, o, cap, g, e, hcap, hbl, hr⟩ := ha.at_ hx
    injection e with e _ e3
    subst e e3
    obtain ⟨b2, o2, cap2, g2, e, hcap2, hbl2, hr2⟩ := hb.at_ hx
    injection e with e _ e3
    subst e e3
    have l1 := hr.ldCells encOk hx
    have l2 := hr2.ldCells encOk hx
    simp only [encA] at l1 l2
    have hlt' : (i : Int) < (L.length : Int) := by omega
    have hw1 : IntKind.i64.wrap ((i : Int) + 1) = ((i + 1 : Nat) : Int) := wrap64 (by omega) (by omega)
    simp (maxSteps := 2000000) only [B0, B1, B2, B3, B4, B5, B6, B7, Gd, extV, Nat.reduceLT, Nat.reduceEqDiff, Nat.reduceBEq, Nat.reduceAdd, Nat.reduceSub, Nat.reduceMul, ↓reduceIte, reduceCtorEq, if_true, if_false, ite_true, ite_false, Int.reduceLT, Int.reduceLE, ptr, Try.len_27, Try.len_43, Try.ia_27, Try.ld_32, Try.ia_43, Try.ld_55, t0,  t1,  t5,  hlt',  hlt,  l1,  l2,  bin_al55,  hw1,  KInv_normal, rs_tmp (show Try.f32.results = #[.tmp 4] from rfl)]
    exact ⟨L.length - (i + 1), by omega, _, i + 1, rfl, by simp [get_put, t0], by simp [get_put, t1], by simp [get_put], by omega⟩
  · have hlt' : ((i : Int) < (L.length : Int)) = False := eq_false (by omega)
    simp (maxSteps := 2000000) only [B0, B1, B2, B3, B4, B5, B6, B7, Gd, extV, Nat.reduceLT, Nat.reduceEqDiff, Nat.reduceBEq, Nat.reduceAdd, Nat.reduceSub, Nat.reduceMul, ↓reduceIte, reduceCtorEq, if_true, if_false, ite_true, ite_false, Int.reduceLT, Int.reduceLE, ptr, Try.len_27, Try.len_43, Try.ia_27, Try.ld_32, Try.ia_43, Try.ld_55, t0,  t1,  t5,  hlt', rs_tmp (show Try.f32.results = #[.tmp 4] from rfl)]
    exact hQ
end Go.Proofs.Ytongccpmdndcgaa.Alm
end
/- The law that compares the alarms with the document's: the run. -/
section
set_option linter.all false
namespace Go.Proofs.Ytongccpmdndcgaa.Alm
open Go Go.AE Go.Hp Go.Sort Go.Proofs
set_option maxRecDepth 100000
set_option maxHeartbeats 2000000
attribute [local irreducible] Go.AE.Tr.put Go.AE.Tr.get
variable {gs : List Nat} {orc : Orc} {n : Nat} {σ : AHeap} {Q : Value × AHeap → Prop}

/-- Both, beside each other. -/
structure Both (σ σ' : AHeap) (p : Nat) (F : List Nat) (q : Nat) (v : Value) (L : List Al) : Prop where
  h : HAt σ' p F L
  r : RAt σ' q v L
  qF : q ∉ F
  vF : ∀ b ∈ blks v, b ∉ F
  low : ∀ b ∈ F, σ.next ≤ b
  ql : σ.next ≤ q
  vl : ∀ b ∈ blks v, σ.next ≤ b
  same : Same σ σ' []
theorem Both.step {σ σ1 σ2 : AHeap} {p q : Nat} {F : List Nat} {v : Value} {L : List Al} (w : Both σ σ1 p F q v L) (hS : Same σ1 σ2 []) : Both σ σ2 p F q v L :=
  ⟨w.h.same hS nofun, w.r.same hS nofun nofun, w.qF, w.vF, w.low, w.ql, w.vl, w.same.trans hS nofun⟩
theorem Both.var {σ σ1 σ2 : AHeap} {p q b : Nat} {F : List Nat} {v : Value} {L : List Al} (w : Both σ σ1 p F q v L) (hS : Same σ1 σ2 [b]) (hb : b ∉ F ∧ b ≠ q ∧ b ∉ blks v ∧ σ.next ≤ b) : Both σ σ2 p F q v L :=
  ⟨w.h.same hS fun c hc e => hb.1 (by simp at e; exact e ▸ hc), w.r.same hS (fun e => hb.2.1 (by simp at e; exact e.symm)) (fun c hc e => hb.2.2.1 (by simp at e; exact e ▸ hc)), w.qF, w.vF, w.low, w.ql, w.vl, (w.same.app hS).old fun c hc => by simp at hc; subst hc; exact .inr hb.2.2.2⟩
/-- A call on each. -/
theorem Both.call {σ σ1 σ2 σ3 : AHeap} {p q : Nat} {F F' : List Nat} {v v' : Value} {L L' : List Al} (w : Both σ σ1 p F q v L) (hh : HAt σ2 p F' L') (hF : ∀ b ∈ F', b ∈ F ∨ σ1.next ≤ b) (hS : Same σ1 σ2 F)
    (hr : RAt σ3 q v' L') (hv : ∀ b ∈ blks v', b ∈ blks v ∨ σ2.next ≤ b) (hS3 : Same σ2 σ3 [q]) : Both σ σ3 p F' q v' L' := by
  have n1 := w.same.next
  have n2 := hS.next
  have q1 := w.r.obj.1
  have v1 := w.r.sl.lt
  have hqF : q ∉ F' := fun e => by rcases hF q e with z | z; exact w.qF z; omega
  have hlow := hh.low
  refine ⟨hh.same hS3 fun b hb e => hqF (by simp at e; exact e ▸ hb), hr, hqF, fun b hb e => ?_, fun b hb => ?_, w.ql, fun b hb => ?_, ((w.same.app hS).app hS3).old fun b hb => ?_⟩
  · rcases hv b hb with z | z
    · rcases hF b e with y | y
      · exact w.vF b z y
      · have := v1 b z; omega
    · have := hlow b e; omega
  · rcases hF b hb with z | z
    · exact w.low b z
    · omega
  · rcases hv b hb with z | z
    · exact w.vl b z
    · omega
  · simp only [List.nil_append, List.mem_append, List.mem_singleton] at hb
    rcases hb with z | z
    · exact .inr (w.low b z)
    · subst z; exact .inr w.ql
theorem bin_al55h {x y : Operand} {a b : Al} : bin Try.prog .neq 55 x y (alV a) (alV b) = some (.bool !(decide (a = b))) := bin_agg_ne (by kernel_rfl) (eqV_al55 a b)
theorem tells_law_run (f : Free8 orc) {v : Value} {cl : List Cl} (hv : SlR σ 3 encC v cl) (hn : 200 ≤ n) (hQ : ∀ σ', Same σ σ' [] → Q (.bool true, σ')) : W (acall Try.prog gs orc (n + 12) 5 [v] σ) Q := by
  obtain ⟨a0, c0, rfl⟩ := hv.len
  have hv0 := hv
  rw [W_start (m := 176) (keep := [11, 14, 17, 28]) Try.func5 rfl (by kernel_rfl) (by kernel_rfl) (by first | rfl | assumption | exact f.h5) (by rfl)]
  simp (maxSteps := 2000000) only [B0, B1, B2, B3, B4, B5, B6, B7, Gd, extV, Nat.reduceLT, Nat.reduceEqDiff, Nat.reduceBEq, Nat.reduceAdd, Nat.reduceSub, Nat.reduceMul, ↓reduceIte, reduceCtorEq, if_true, if_false, ite_true, ite_false, Int.reduceLT, Int.reduceLE, ptr, callV_func Try.enters_27, Try.len_22, Try.ia_22, Try.ld_47, allocV_zero Try.zero_47, Try.st_47, Try.fa_47_1, Try.ld_9, Try.len_9, Try.st_9, Try.fa_47_0, Try.ld_3, Try.fa_47_2, Try.ld_2, callV_func Try.enters_28, callV_func Try.enters_29, callV_func Try.enters_30, callV_func Try.enters_31, callV_func Try.enters_24, callV_func Try.enters_33, callV_func Try.enters_32, callV_func Try.enters_26, callV_func Try.enters_22, callV_func Try.enters_34, callV_func Try.enters_23, allocV_zero Try.zero_32, Try.st_32, callV_func Try.enters_20, Try.fa_45_0, Try.ld_43, Try.len_43, callV_func Try.enters_19, Try.ld_32, Try.ia_43, Try.ld_55, callV_func Try.enters_25, rs_tmp (show Try.f5.results = #[.tmp 2] from rfl)]
  refine new_run f.toFree3 fun σ1 p F hp hF hS1 => ?_
  obtain ⟨σ2, e2, hS2, v2, hn2⟩ := AE.oneVar σ1 45 [.slice none 0 0] false
  have hn1 := hS1.next
  have b45 : build' Try.prog 45 [] = some (.agg #[.slice none 0 0]) := by kernel_rfl
  have w0 : Both σ σ2 p F σ1.next (.slice none 0 0) [] := ⟨hp.same hS2 nofun, ⟨v2, .inl ⟨rfl, rfl⟩, nofun⟩, fun e => by have := hp.low _ e; omega, nofun, hF, hn1, nofun, hS1.trans hS2 nofun⟩
  simp (maxSteps := 2000000) only [B0, B1, B2, B3, B4, B5, B6, B7, Gd, extV, Nat.reduceLT, Nat.reduceEqDiff, Nat.reduceBEq, Nat.reduceAdd, Nat.reduceSub, Nat.reduceMul, ↓reduceIte, reduceCtorEq, if_true, if_false, ite_true, ite_false, Int.reduceLT, Int.reduceLE, ptr, callV_func Try.enters_27, Try.len_22, Try.ia_22, Try.ld_47, allocV_zero Try.zero_47, Try.st_47, Try.fa_47_1, Try.ld_9, Try.len_9, Try.st_9, Try.fa_47_0, Try.ld_3, Try.fa_47_2, Try.ld_2, callV_func Try.enters_28, callV_func Try.enters_29, callV_func Try.enters_30, callV_func Try.enters_31, callV_func Try.enters_24, callV_func Try.enters_33, callV_func Try.enters_32, callV_func Try.enters_26, callV_func Try.enters_22, callV_func Try.enters_34, callV_func Try.enters_23, allocV_zero Try.zero_32, Try.st_32, callV_func Try.enters_20, Try.fa_45_0, Try.ld_43, Try.len_43, callV_func Try.enters_19, Try.ld_32, Try.ia_43, Try.ld_55, callV_func Try.enters_25, b45,  Value.cells,  e2, rs_tmp (show Try.f5.results = #[.tmp 2] from rfl)]
  refine W_inv (fun k fr σ' => ∃ (t : Tr Value) (i p : Nat) (F : List Nat) (v : Value) (L : List Al), fr = ⟨176, t⟩ ∧ t.get 0 = some (.slice a0 cl.length c0) ∧ t.get 3 = some (pt p) ∧ t.get 4 = some (pt σ1.next) ∧ t.get 5 = some (.int .i64 (i : Int)) ∧ k + i = 100 ∧ L.length ≤ i ∧ Both σ σ' p F σ1.next v L) 100 (by omega)
    ⟨_, 0, p, F, _, [], rfl, by simp [get_put, get_args], by simp [get_put], by simp [get_put], by simp [get_put], rfl, by simp, w0⟩ ?_
  rintro k fr σ3 ⟨t, i, p3, F3, v3, L, rfl, t0, t3, t4, t5, hk, hLl, w3⟩
  by_cases hgo : i < cl.length ∧ i < 100
  · obtain ⟨hlt, h100⟩ := hgo
    have hx := List.getElem?_eq_getElem hlt
    generalize cl[i] = x at hx
    obtain ⟨w, ky, tm⟩ := x
    obtain ⟨b, o, cap, e, hb, hld⟩ := hv.at_ hx
    injection e with e e1 e3
    subst e e3
    have hld3 : ldCells σ3 b (o + i * 3) 3 = some [.int .i64 w, .string ky, .int .i64 tm] := by rw [w3.same.ldCells hb nofun]; exact hld
    have hlt' : (i : Int) < (cl.length : Int) := by omega
    have h100' : (i : Int) < 100 := by omega
    have n3 := w3.same.next
    obtain ⟨σ4, σ5, e4, t5', hS5, x5, hn5, _⟩ := AE.newVar σ3 47 [.int .i64 (0), .string ⟨#[]⟩, .int .i64 (0)] [.int .i64 w, .string ky, .int .i64 tm] rfl (by intro v hv; simp at hv; rcases hv with rfl | rfl | rfl <;> rfl)
    have w5 := w3.step hS5
    have hmin : (if (70 : Int) < (ky.size : Int) then (70 : Int) else (ky.size : Int)) = ((min 70 ky.size : Nat) : Int) := by split <;> omega
    have hc1 := x5.ld (o := 1) rfl
    have hsl : ∀ {τ : AHeap}, sliceOp Try.prog 9 (.string ky) none (some (.int .i64 ((min 70 ky.size : Nat) : Int))) none τ = some (.string (key ky)) := slice_str Try.underlying9 (by omega)
    obtain ⟨σ6, t6, x6, hS6, hn6⟩ := x5.storeAt (i := 1) (v := .string (key ky)) (by simp) rfl
    have hfr : σ3.next ∉ F3 ∧ σ3.next ≠ σ1.next ∧ σ3.next ∉ blks v3 ∧ σ.next ≤ σ3.next := ⟨fun e => by have := w3.h.low _ e; omega, by have := w3.r.obj.1; omega, fun e => by have := w3.r.sl.lt _ e; omega, n3⟩
    have w6 := w5.var hS6 hfr
    have x60 := x6.ld (o := 0) rfl
    have x61 := x6.ld (o := 1) rfl
    have x62 := x6.ld (o := 2) rfl
    have hwi : IntKind.i64.wrap ((i : Int) + 1) = ((i + 1 : Nat) : Int) := wrap64 (by omega) (by omega)
    have hkd := w6.h.kd
    have hks := key_size ky
    have hn11 := hn
    by_cases c012 : w = 0 ∨ w = 1 ∨ w = 2
    · have hl9' : (if bad (key ky) tm then L else setA (key ky) tm L).length ≤ i + 1 := by
        split
        · omega
        · rw [set_len hkd]; split <;> omega
      rcases c012 with rfl | rfl | rfl
      · simp (maxSteps := 2000000) only [B0, B1, B2, B3, B4, B5, B6, B7, Gd, extV, Nat.reduceLT, Nat.reduceEqDiff, Nat.reduceBEq, Nat.reduceAdd, Nat.reduceSub, Nat.reduceMul, ↓reduceIte, reduceCtorEq, if_true, if_false, ite_true, ite_false, Int.reduceLT, Int.reduceLE, ptr, callV_func Try.enters_27, Try.len_22, Try.ia_22, Try.ld_47, allocV_zero Try.zero_47, Try.st_47, Try.fa_47_1, Try.ld_9, Try.len_9, Try.st_9, Try.fa_47_0, Try.ld_3, Try.fa_47_2, Try.ld_2, callV_func Try.enters_28, callV_func Try.enters_29, callV_func Try.enters_30, callV_func Try.enters_31, callV_func Try.enters_24, callV_func Try.enters_33, callV_func Try.enters_32, callV_func Try.enters_26, callV_func Try.enters_22, callV_func Try.enters_34, callV_func Try.enters_23, allocV_zero Try.zero_32, Try.st_32, callV_func Try.enters_20, Try.fa_45_0, Try.ld_43, Try.len_43, callV_func Try.enters_19, Try.ld_32, Try.ia_43, Try.ld_55, callV_func Try.enters_25, x60, t0,  t3,  t4,  t5,  hlt',  hlt,  h100',  hld3,  e4,  t5',  Value.cells,  List.size_toArray,  hc1,  min_int,  hmin,  hsl,  t6,  hwi,  KInv_normal,  Int.reduceEq,  RetAt_mkg,  RetAt_lastg,  implies_true, rs_tmp (show Try.f5.results = #[.tmp 2] from rfl)]
        refine Eq.mpr (W_retold (ps := [(5, 8), (5, 10)]) (by kernel_rfl) (by kernel_rfl) (by simp)) ?_
        simp (maxSteps := 2000000) only [B0, B1, B2, B3, B4, B5, B6, B7, Gd, extV, Nat.reduceLT, Nat.reduceEqDiff, Nat.reduceBEq, Nat.reduceAdd, Nat.reduceSub, Nat.reduceMul, ↓reduceIte, reduceCtorEq, if_true, if_false, ite_true, ite_false, Int.reduceLT, Int.reduceLE, ptr, callV_func Try.enters_27, Try.len_22, Try.ia_22, Try.ld_47, allocV_zero Try.zero_47, Try.st_47, Try.fa_47_1, Try.ld_9, Try.len_9, Try.st_9, Try.fa_47_0, Try.ld_3, Try.fa_47_2, Try.ld_2, callV_func Try.enters_28, callV_func Try.enters_29, callV_func Try.enters_30, callV_func Try.enters_31, callV_func Try.enters_24, callV_func Try.enters_33, callV_func Try.enters_32, callV_func Try.enters_26, callV_func Try.enters_22, callV_func Try.enters_34, callV_func Try.enters_23, allocV_zero Try.zero_32, Try.st_32, callV_func Try.enters_20, Try.fa_45_0, Try.ld_43, Try.len_43, callV_func Try.enters_19, Try.ld_32, Try.ia_43, Try.ld_55, callV_func Try.enters_25, x61,  x62, t0,  t3,  t4,  t5,  hlt',  hlt,  h100',  hld3,  e4,  t5',  Value.cells,  List.size_toArray,  hc1,  min_int,  hmin,  hsl,  t6,  hwi,  KInv_normal,  Int.reduceEq,  RetAt_mkg,  RetAt_lastg,  implies_true, rs_tmp (show Try.f5.results = #[.tmp 2] from rfl)]
        refine set_run f.toFree3 w6.h (key ky) tm (by omega) (by omega) fun σ7 F7 h7 hF7 hS7 => ?_
        have x7 := x6.same hS7 hfr.1
        have x71 := x7.ld (o := 1) rfl
        have x72 := x7.ld (o := 2) rfl
        simp (maxSteps := 2000000) only [B0, B1, B2, B3, B4, B5, B6, B7, Gd, extV, Nat.reduceLT, Nat.reduceEqDiff, Nat.reduceBEq, Nat.reduceAdd, Nat.reduceSub, Nat.reduceMul, ↓reduceIte, reduceCtorEq, if_true, if_false, ite_true, ite_false, Int.reduceLT, Int.reduceLE, ptr, callV_func Try.enters_27, Try.len_22, Try.ia_22, Try.ld_47, allocV_zero Try.zero_47, Try.st_47, Try.fa_47_1, Try.ld_9, Try.len_9, Try.st_9, Try.fa_47_0, Try.ld_3, Try.fa_47_2, Try.ld_2, callV_func Try.enters_28, callV_func Try.enters_29, callV_func Try.enters_30, callV_func Try.enters_31, callV_func Try.enters_24, callV_func Try.enters_33, callV_func Try.enters_32, callV_func Try.enters_26, callV_func Try.enters_22, callV_func Try.enters_34, callV_func Try.enters_23, allocV_zero Try.zero_32, Try.st_32, callV_func Try.enters_20, Try.fa_45_0, Try.ld_43, Try.len_43, callV_func Try.enters_19, Try.ld_32, Try.ia_43, Try.ld_55, callV_func Try.enters_25, x71,  x72, t0,  t3,  t4,  t5,  hlt',  hlt,  h100',  hld3,  e4,  t5',  Value.cells,  List.size_toArray,  hc1,  min_int,  hmin,  hsl,  t6,  hwi,  KInv_normal,  Int.reduceEq,  RetAt_mkg,  RetAt_lastg,  implies_true, rs_tmp (show Try.f5.results = #[.tmp 2] from rfl)]
        refine rset_run f (w6.r.same hS7 w6.qF w6.vF) hkd (key ky) tm (by omega) (by omega) fun σ8 v8 h8 hv8 hS8 => ?_
        have w8 := w6.call h7 hF7 hS7 h8 (fun b hb => by rcases hv8 b hb with z | z; exact .inl z; exact .inr z) hS8
        have x8 := x7.same hS8 (by simp; exact hfr.2.1)
        generalize (if bad (key ky) tm then L else setA (key ky) tm L) = L9 at *
        simp (maxSteps := 2000000) only [B0, B1, B2, B3, B4, B5, B6, B7, Gd, extV, Nat.reduceLT, Nat.reduceEqDiff, Nat.reduceBEq, Nat.reduceAdd, Nat.reduceSub, Nat.reduceMul, ↓reduceIte, reduceCtorEq, if_true, if_false, ite_true, ite_false, Int.reduceLT, Int.reduceLE, ptr, callV_func Try.enters_27, Try.len_22, Try.ia_22, Try.ld_47, allocV_zero Try.zero_47, Try.st_47, Try.fa_47_1, Try.ld_9, Try.len_9, Try.st_9, Try.fa_47_0, Try.ld_3, Try.fa_47_2, Try.ld_2, callV_func Try.enters_28, callV_func Try.enters_29, callV_func Try.enters_30, callV_func Try.enters_31, callV_func Try.enters_24, callV_func Try.enters_33, callV_func Try.enters_32, callV_func Try.enters_26, callV_func Try.enters_22, callV_func Try.enters_34, callV_func Try.enters_23, allocV_zero Try.zero_32, Try.st_32, callV_func Try.enters_20, Try.fa_45_0, Try.ld_43, Try.len_43, callV_func Try.enters_19, Try.ld_32, Try.ia_43, Try.ld_55, callV_func Try.enters_25, x61,  x62,  x71,  x72, t0,  t3,  t4,  t5,  hlt',  hlt,  h100',  hld3,  e4,  t5',  Value.cells,  List.size_toArray,  hc1,  min_int,  hmin,  hsl,  t6,  hwi,  KInv_normal,  Int.reduceEq,  RetAt_mkg,  RetAt_lastg,  implies_true, rs_tmp (show Try.f5.results = #[.tmp 2] from rfl)]
        have x51 := x8.ld (o := 1) rfl
        simp (maxSteps := 2000000) only [B0, B1, B2, B3, B4, B5, B6, B7, Gd, extV, Nat.reduceLT, Nat.reduceEqDiff, Nat.reduceBEq, Nat.reduceAdd, Nat.reduceSub, Nat.reduceMul, ↓reduceIte, reduceCtorEq, if_true, if_false, ite_true, ite_false, Int.reduceLT, Int.reduceLE, ptr, callV_func Try.enters_27, Try.len_22, Try.ia_22, Try.ld_47, allocV_zero Try.zero_47, Try.st_47, Try.fa_47_1, Try.ld_9, Try.len_9, Try.st_9, Try.fa_47_0, Try.ld_3, Try.fa_47_2, Try.ld_2, callV_func Try.enters_28, callV_func Try.enters_29, callV_func Try.enters_30, callV_func Try.enters_31, callV_func Try.enters_24, callV_func Try.enters_33, callV_func Try.enters_32, callV_func Try.enters_26, callV_func Try.enters_22, callV_func Try.enters_34, callV_func Try.enters_23, allocV_zero Try.zero_32, Try.st_32, callV_func Try.enters_20, Try.fa_45_0, Try.ld_43, Try.len_43, callV_func Try.enters_19, Try.ld_32, Try.ia_43, Try.ld_55, callV_func Try.enters_25, x51,  at_run f.toFree3 w8.h, t0,  t3,  t4,  t5,  hlt',  hlt,  h100',  hld3,  e4,  t5',  Value.cells,  List.size_toArray,  hc1,  min_int,  hmin,  hsl,  t6,  hwi,  KInv_normal,  Int.reduceEq,  RetAt_mkg,  RetAt_lastg,  implies_true, rs_tmp (show Try.f5.results = #[.tmp 2] from rfl)]
        refine rat_run f w8.r w8.h.kd _ (by omega) (by omega) ?_
        simp (maxSteps := 2000000) only [B0, B1, B2, B3, B4, B5, B6, B7, Gd, extV, Nat.reduceLT, Nat.reduceEqDiff, Nat.reduceBEq, Nat.reduceAdd, Nat.reduceSub, Nat.reduceMul, ↓reduceIte, reduceCtorEq, if_true, if_false, ite_true, ite_false, Int.reduceLT, Int.reduceLE, ptr, callV_func Try.enters_27, Try.len_22, Try.ia_22, Try.ld_47, allocV_zero Try.zero_47, Try.st_47, Try.fa_47_1, Try.ld_9, Try.len_9, Try.st_9, Try.fa_47_0, Try.ld_3, Try.fa_47_2, Try.ld_2, callV_func Try.enters_28, callV_func Try.enters_29, callV_func Try.enters_30, callV_func Try.enters_31, callV_func Try.enters_24, callV_func Try.enters_33, callV_func Try.enters_32, callV_func Try.enters_26, callV_func Try.enters_22, callV_func Try.enters_34, callV_func Try.enters_23, allocV_zero Try.zero_32, Try.st_32, callV_func Try.enters_20, Try.fa_45_0, Try.ld_43, Try.len_43, callV_func Try.enters_19, Try.ld_32, Try.ia_43, Try.ld_55, callV_func Try.enters_25, t0,  t3,  t4,  t5,  hlt',  hlt,  h100',  hld3,  e4,  t5',  Value.cells,  List.size_toArray,  hc1,  min_int,  hmin,  hsl,  t6,  hwi,  KInv_normal,  Int.reduceEq,  RetAt_mkg,  RetAt_lastg,  implies_true, rs_tmp (show Try.f5.results = #[.tmp 2] from rfl)]
        refine next_run f.toFree3 w8.h fun σ18 c8 hS18 hc0 hc1 => ?_
        obtain ⟨σ19, σ20, e19, t20, hS20, v20, hn20, _⟩ := AE.newVar σ18 32 [.string ⟨#[]⟩, .int .i64 0] (encA (L9.headD (⟨#[]⟩, 0))) rfl (encA_single _)
        have w20 := (w8.step hS18).step hS20
        simp only [encA] at t20
        simp (maxSteps := 2000000) only [B0, B1, B2, B3, B4, B5, B6, B7, Gd, extV, Nat.reduceLT, Nat.reduceEqDiff, Nat.reduceBEq, Nat.reduceAdd, Nat.reduceSub, Nat.reduceMul, ↓reduceIte, reduceCtorEq, if_true, if_false, ite_true, ite_false, Int.reduceLT, Int.reduceLE, ptr, callV_func Try.enters_27, Try.len_22, Try.ia_22, Try.ld_47, allocV_zero Try.zero_47, Try.st_47, Try.fa_47_1, Try.ld_9, Try.len_9, Try.st_9, Try.fa_47_0, Try.ld_3, Try.fa_47_2, Try.ld_2, callV_func Try.enters_28, callV_func Try.enters_29, callV_func Try.enters_30, callV_func Try.enters_31, callV_func Try.enters_24, callV_func Try.enters_33, callV_func Try.enters_32, callV_func Try.enters_26, callV_func Try.enters_22, callV_func Try.enters_34, callV_func Try.enters_23, allocV_zero Try.zero_32, Try.st_32, callV_func Try.enters_20, Try.fa_45_0, Try.ld_43, Try.len_43, callV_func Try.enters_19, Try.ld_32, Try.ia_43, Try.ld_55, callV_func Try.enters_25, alV,  e19,  t20,  Value.cells,  List.size_toArray, t0,  t3,  t4,  t5,  hlt',  hlt,  h100',  hld3,  e4,  t5',  Value.cells,  List.size_toArray,  hc1,  min_int,  hmin,  hsl,  t6,  hwi,  KInv_normal,  Int.reduceEq,  RetAt_mkg,  RetAt_lastg,  implies_true, rs_tmp (show Try.f5.results = #[.tmp 2] from rfl)]
        refine Eq.mpr (W_retold (ps := [(10, 14), (10, 15), (20, 24)]) (by kernel_rfl) (by kernel_rfl) (by simp)) ?_
        obtain ⟨a20, k20, ev20, hk20⟩ := w20.r.sl.len
        have ld20 := w20.r.ld0
        rw [ev20] at ld20
        simp (maxSteps := 2000000) only [B0, B1, B2, B3, B4, B5, B6, B7, Gd, extV, Nat.reduceLT, Nat.reduceEqDiff, Nat.reduceBEq, Nat.reduceAdd, Nat.reduceSub, Nat.reduceMul, ↓reduceIte, reduceCtorEq, if_true, if_false, ite_true, ite_false, Int.reduceLT, Int.reduceLE, ptr, callV_func Try.enters_27, Try.len_22, Try.ia_22, Try.ld_47, allocV_zero Try.zero_47, Try.st_47, Try.fa_47_1, Try.ld_9, Try.len_9, Try.st_9, Try.fa_47_0, Try.ld_3, Try.fa_47_2, Try.ld_2, callV_func Try.enters_28, callV_func Try.enters_29, callV_func Try.enters_30, callV_func Try.enters_31, callV_func Try.enters_24, callV_func Try.enters_33, callV_func Try.enters_32, callV_func Try.enters_26, callV_func Try.enters_22, callV_func Try.enters_34, callV_func Try.enters_23, allocV_zero Try.zero_32, Try.st_32, callV_func Try.enters_20, Try.fa_45_0, Try.ld_43, Try.len_43, callV_func Try.enters_19, Try.ld_32, Try.ia_43, Try.ld_55, callV_func Try.enters_25, len_h f.toFree w20.h,  ld20,  bin_bneq Try.underlying4, t0,  t3,  t4,  t5,  hlt',  hlt,  h100',  hld3,  e4,  t5',  Value.cells,  List.size_toArray,  hc1,  min_int,  hmin,  hsl,  t6,  hwi,  KInv_normal,  Int.reduceEq,  RetAt_mkg,  RetAt_lastg,  implies_true, rs_tmp (show Try.f5.results = #[.tmp 2] from rfl)]
        refine all_run f.toFree4 w20.h (by omega) fun σ21 v21 hv21 hb21 hS21 => ?_
        have w21 := w20.step hS21
        have ld21 := w21.r.ld0
        rw [ev20] at ld21
        simp (maxSteps := 2000000) only [B0, B1, B2, B3, B4, B5, B6, B7, Gd, extV, Nat.reduceLT, Nat.reduceEqDiff, Nat.reduceBEq, Nat.reduceAdd, Nat.reduceSub, Nat.reduceMul, ↓reduceIte, reduceCtorEq, if_true, if_false, ite_true, ite_false, Int.reduceLT, Int.reduceLE, ptr, callV_func Try.enters_27, Try.len_22, Try.ia_22, Try.ld_47, allocV_zero Try.zero_47, Try.st_47, Try.fa_47_1, Try.ld_9, Try.len_9, Try.st_9, Try.fa_47_0, Try.ld_3, Try.fa_47_2, Try.ld_2, callV_func Try.enters_28, callV_func Try.enters_29, callV_func Try.enters_30, callV_func Try.enters_31, callV_func Try.enters_24, callV_func Try.enters_33, callV_func Try.enters_32, callV_func Try.enters_26, callV_func Try.enters_22, callV_func Try.enters_34, callV_func Try.enters_23, allocV_zero Try.zero_32, Try.st_32, callV_func Try.enters_20, Try.fa_45_0, Try.ld_43, Try.len_43, callV_func Try.enters_19, Try.ld_32, Try.ia_43, Try.ld_55, callV_func Try.enters_25, ld21, t0,  t3,  t4,  t5,  hlt',  hlt,  h100',  hld3,  e4,  t5',  Value.cells,  List.size_toArray,  hc1,  min_int,  hmin,  hsl,  t6,  hwi,  KInv_normal,  Int.reduceEq,  RetAt_mkg,  RetAt_lastg,  implies_true, rs_tmp (show Try.f5.results = #[.tmp 2] from rfl)]
        refine same_run f.h32 hv21 (by have := w21.r.sl; rw [ev20] at this; exact this) (by omega) (by omega) ?_
        have l21 : ldCells σ21 σ18.next 0 2 = some [.string (L9.headD (⟨#[]⟩, 0)).1, .int .i64 (L9.headD (⟨#[]⟩, 0)).2] := (v20.same hS21 nofun).ldCells
        have sl21 := w21.r.sl
        rw [ev20] at sl21
        cases L9 with
        | nil =>
          have := hc0 rfl
          subst this
          have bz : ∀ {u z}, bin Try.prog .neq 32 u z (.agg #[.string ⟨#[]⟩, .int .i64 0]) (.agg #[.string ⟨#[]⟩, .int .i64 0]) = some (.bool false) := by
            intro u z; have := bin_al_ne (x := u) (y := z) (a := (⟨#[]⟩, 0)) (b := (⟨#[]⟩, 0)); simpa [alV] using this
          simp only [List.headD_nil] at l21
          simp (maxSteps := 2000000) only [B0, B1, B2, B3, B4, B5, B6, B7, Gd, extV, Nat.reduceLT, Nat.reduceEqDiff, Nat.reduceBEq, Nat.reduceAdd, Nat.reduceSub, Nat.reduceMul, ↓reduceIte, reduceCtorEq, if_true, if_false, ite_true, ite_false, Int.reduceLT, Int.reduceLE, ptr, callV_func Try.enters_27, Try.len_22, Try.ia_22, Try.ld_47, allocV_zero Try.zero_47, Try.st_47, Try.fa_47_1, Try.ld_9, Try.len_9, Try.st_9, Try.fa_47_0, Try.ld_3, Try.fa_47_2, Try.ld_2, callV_func Try.enters_28, callV_func Try.enters_29, callV_func Try.enters_30, callV_func Try.enters_31, callV_func Try.enters_24, callV_func Try.enters_33, callV_func Try.enters_32, callV_func Try.enters_26, callV_func Try.enters_22, callV_func Try.enters_34, callV_func Try.enters_23, allocV_zero Try.zero_32, Try.st_32, callV_func Try.enters_20, Try.fa_45_0, Try.ld_43, Try.len_43, callV_func Try.enters_19, Try.ld_32, Try.ia_43, Try.ld_55, callV_func Try.enters_25, ld20,  ld21,  len_h f.toFree w20.h,  bin_bneq Try.underlying4,  List.length_nil,  l21,  b32z,  bz, t0,  t3,  t4,  t5,  hlt',  hlt,  h100',  hld3,  e4,  t5',  Value.cells,  List.size_toArray,  hc1,  min_int,  hmin,  hsl,  t6,  hwi,  KInv_normal,  Int.reduceEq,  RetAt_mkg,  RetAt_lastg,  implies_true, rs_tmp (show Try.f5.results = #[.tmp 2] from rfl)]
          exact ⟨99 - i, by omega, _, i + 1, _, _, _, [], rfl, by simp [get_put, t0], by simp [get_put, t3], by simp [get_put, t4], by simp [get_put], by omega, by simp, w21⟩
        | cons y l =>
          have := hc1 _ _ rfl
          subst this
          have hposn : 0 < (y :: l).length := by simp
          have hpos : (0 : Int) < ((y :: l).length : Int) := by omega
          obtain ⟨b9, o9, cap9, g9, e, hcap9, hbl9, hr9⟩ := sl21.at_ (i := 0) rfl
          injection e with e _ e3
          subst e e3
          have l9 := hr9.ldCells encOk (i := 0) rfl
          simp only [encA, Nat.zero_mul, Nat.add_zero] at l9
          simp only [List.headD_cons] at l21
          generalize hlen : (y :: l).length = len9 at *
          simp (maxSteps := 2000000) only [B0, B1, B2, B3, B4, B5, B6, B7, Gd, extV, Nat.reduceLT, Nat.reduceEqDiff, Nat.reduceBEq, Nat.reduceAdd, Nat.reduceSub, Nat.reduceMul, ↓reduceIte, reduceCtorEq, if_true, if_false, ite_true, ite_false, Int.reduceLT, Int.reduceLE, ptr, callV_func Try.enters_27, Try.len_22, Try.ia_22, Try.ld_47, allocV_zero Try.zero_47, Try.st_47, Try.fa_47_1, Try.ld_9, Try.len_9, Try.st_9, Try.fa_47_0, Try.ld_3, Try.fa_47_2, Try.ld_2, callV_func Try.enters_28, callV_func Try.enters_29, callV_func Try.enters_30, callV_func Try.enters_31, callV_func Try.enters_24, callV_func Try.enters_33, callV_func Try.enters_32, callV_func Try.enters_26, callV_func Try.enters_22, callV_func Try.enters_34, callV_func Try.enters_23, allocV_zero Try.zero_32, Try.st_32, callV_func Try.enters_20, Try.fa_45_0, Try.ld_43, Try.len_43, callV_func Try.enters_19, Try.ld_32, Try.ia_43, Try.ld_55, callV_func Try.enters_25, ld20,  ld21,  len_h f.toFree w20.h,  bin_bneq Try.underlying4,  hpos,  hposn,  l21,  l9,  bin_al55,  hlen,  Nat.zero_mul, t0,  t3,  t4,  t5,  hlt',  hlt,  h100',  hld3,  e4,  t5',  Value.cells,  List.size_toArray,  hc1,  min_int,  hmin,  hsl,  t6,  hwi,  KInv_normal,  Int.reduceEq,  RetAt_mkg,  RetAt_lastg,  implies_true, rs_tmp (show Try.f5.results = #[.tmp 2] from rfl)]
          exact ⟨99 - i, by omega, _, i + 1, _, _, _, y :: l, rfl, by simp [get_put, t0], by simp [get_put, t3], by simp [get_put, t4], by simp [get_put], by omega, by omega, w21⟩
      · simp (maxSteps := 2000000) only [B0, B1, B2, B3, B4, B5, B6, B7, Gd, extV, Nat.reduceLT, Nat.reduceEqDiff, Nat.reduceBEq, Nat.reduceAdd, Nat.reduceSub, Nat.reduceMul, ↓reduceIte, reduceCtorEq, if_true, if_false, ite_true, ite_false, Int.reduceLT, Int.reduceLE, ptr, callV_func Try.enters_27, Try.len_22, Try.ia_22, Try.ld_47, allocV_zero Try.zero_47, Try.st_47, Try.fa_47_1, Try.ld_9, Try.len_9, Try.st_9, Try.fa_47_0, Try.ld_3, Try.fa_47_2, Try.ld_2, callV_func Try.enters_28, callV_func Try.enters_29, callV_func Try.enters_30, callV_func Try.enters_31, callV_func Try.enters_24, callV_func Try.enters_33, callV_func Try.enters_32, callV_func Try.enters_26, callV_func Try.enters_22, callV_func Try.enters_34, callV_func Try.enters_23, allocV_zero Try.zero_32, Try.st_32, callV_func Try.enters_20, Try.fa_45_0, Try.ld_43, Try.len_43, callV_func Try.enters_19, Try.ld_32, Try.ia_43, Try.ld_55, callV_func Try.enters_25, x60, t0,  t3,  t4,  t5,  hlt',  hlt,  h100',  hld3,  e4,  t5',  Value.cells,  List.size_toArray,  hc1,  min_int,  hmin,  hsl,  t6,  hwi,  KInv_normal,  Int.reduceEq,  RetAt_mkg,  RetAt_lastg,  implies_true, rs_tmp (show Try.f5.results = #[.tmp 2] from rfl)]
        refine Eq.mpr (W_retold (ps := [(5, 8), (5, 10)]) (by kernel_rfl) (by kernel_rfl) (by simp)) ?_
        simp (maxSteps := 2000000) only [B0, B1, B2, B3, B4, B5, B6, B7, Gd, extV, Nat.reduceLT, Nat.reduceEqDiff, Nat.reduceBEq, Nat.reduceAdd, Nat.reduceSub, Nat.reduceMul, ↓reduceIte, reduceCtorEq, if_true, if_false, ite_true, ite_false, Int.reduceLT, Int.reduceLE, ptr, callV_func Try.enters_27, Try.len_22, Try.ia_22, Try.ld_47, allocV_zero Try.zero_47, Try.st_47, Try.fa_47_1, Try.ld_9, Try.len_9, Try.st_9, Try.fa_47_0, Try.ld_3, Try.fa_47_2, Try.ld_2, callV_func Try.enters_28, callV_func Try.enters_29, callV_func Try.enters_30, callV_func Try.enters_31, callV_func Try.enters_24, callV_func Try.enters_33, callV_func Try.enters_32, callV_func Try.enters_26, callV_func Try.enters_22, callV_func Try.enters_34, callV_func Try.enters_23, allocV_zero Try.zero_32, Try.st_32, callV_func Try.enters_20, Try.fa_45_0, Try.ld_43, Try.len_43, callV_func Try.enters_19, Try.ld_32, Try.ia_43, Try.ld_55, callV_func Try.enters_25, x61,  x62, t0,  t3,  t4,  t5,  hlt',  hlt,  h100',  hld3,  e4,  t5',  Value.cells,  List.size_toArray,  hc1,  min_int,  hmin,  hsl,  t6,  hwi,  KInv_normal,  Int.reduceEq,  RetAt_mkg,  RetAt_lastg,  implies_true, rs_tmp (show Try.f5.results = #[.tmp 2] from rfl)]
        refine set_run f.toFree3 w6.h (key ky) tm (by omega) (by omega) fun σ7 F7 h7 hF7 hS7 => ?_
        have x7 := x6.same hS7 hfr.1
        have x71 := x7.ld (o := 1) rfl
        have x72 := x7.ld (o := 2) rfl
        simp (maxSteps := 2000000) only [B0, B1, B2, B3, B4, B5, B6, B7, Gd, extV, Nat.reduceLT, Nat.reduceEqDiff, Nat.reduceBEq, Nat.reduceAdd, Nat.reduceSub, Nat.reduceMul, ↓reduceIte, reduceCtorEq, if_true, if_false, ite_true, ite_false, Int.reduceLT, Int.reduceLE, ptr, callV_func Try.enters_27, Try.len_22, Try.ia_22, Try.ld_47, allocV_zero Try.zero_47, Try.st_47, Try.fa_47_1, Try.ld_9, Try.len_9, Try.st_9, Try.fa_47_0, Try.ld_3, Try.fa_47_2, Try.ld_2, callV_func Try.enters_28, callV_func Try.enters_29, callV_func Try.enters_30, callV_func Try.enters_31, callV_func Try.enters_24, callV_func Try.enters_33, callV_func Try.enters_32, callV_func Try.enters_26, callV_func Try.enters_22, callV_func Try.enters_34, callV_func Try.enters_23, allocV_zero Try.zero_32, Try.st_32, callV_func Try.enters_20, Try.fa_45_0, Try.ld_43, Try.len_43, callV_func Try.enters_19, Try.ld_32, Try.ia_43, Try.ld_55, callV_func Try.enters_25, x71,  x72, t0,  t3,  t4,  t5,  hlt',  hlt,  h100',  hld3,  e4,  t5',  Value.cells,  List.size_toArray,  hc1,  min_int,  hmin,  hsl,  t6,  hwi,  KInv_normal,  Int.reduceEq,  RetAt_mkg,  RetAt_lastg,  implies_true, rs_tmp (show Try.f5.results = #[.tmp 2] from rfl)]
        refine rset_run f (w6.r.same hS7 w6.qF w6.vF) hkd (key ky) tm (by omega) (by omega) fun σ8 v8 h8 hv8 hS8 => ?_
        have w8 := w6.call h7 hF7 hS7 h8 (fun b hb => by rcases hv8 b hb with z | z; exact .inl z; exact .inr z) hS8
        have x8 := x7.same hS8 (by simp; exact hfr.2.1)
        generalize (if bad (key ky) tm then L else setA (key ky) tm L) = L9 at *
        simp (maxSteps := 2000000) only [B0, B1, B2, B3, B4, B5, B6, B7, Gd, extV, Nat.reduceLT, Nat.reduceEqDiff, Nat.reduceBEq, Nat.reduceAdd, Nat.reduceSub, Nat.reduceMul, ↓reduceIte, reduceCtorEq, if_true, if_false, ite_true, ite_false, Int.reduceLT, Int.reduceLE, ptr, callV_func Try.enters_27, Try.len_22, Try.ia_22, Try.ld_47, allocV_zero Try.zero_47, Try.st_47, Try.fa_47_1, Try.ld_9, Try.len_9, Try.st_9, Try.fa_47_0, Try.ld_3, Try.fa_47_2, Try.ld_2, callV_func Try.enters_28, callV_func Try.enters_29, callV_func Try.enters_30, callV_func Try.enters_31, callV_func Try.enters_24, callV_func Try.enters_33, callV_func Try.enters_32, callV_func Try.enters_26, callV_func Try.enters_22, callV_func Try.enters_34, callV_func Try.enters_23, allocV_zero Try.zero_32, Try.st_32, callV_func Try.enters_20, Try.fa_45_0, Try.ld_43, Try.len_43, callV_func Try.enters_19, Try.ld_32, Try.ia_43, Try.ld_55, callV_func Try.enters_25, x61,  x62,  x71,  x72, t0,  t3,  t4,  t5,  hlt',  hlt,  h100',  hld3,  e4,  t5',  Value.cells,  List.size_toArray,  hc1,  min_int,  hmin,  hsl,  t6,  hwi,  KInv_normal,  Int.reduceEq,  RetAt_mkg,  RetAt_lastg,  implies_true, rs_tmp (show Try.f5.results = #[.tmp 2] from rfl)]
        have x51 := x8.ld (o := 1) rfl
        simp (maxSteps := 2000000) only [B0, B1, B2, B3, B4, B5, B6, B7, Gd, extV, Nat.reduceLT, Nat.reduceEqDiff, Nat.reduceBEq, Nat.reduceAdd, Nat.reduceSub, Nat.reduceMul, ↓reduceIte, reduceCtorEq, if_true, if_false, ite_true, ite_false, Int.reduceLT, Int.reduceLE, ptr, callV_func Try.enters_27, Try.len_22, Try.ia_22, Try.ld_47, allocV_zero Try.zero_47, Try.st_47, Try.fa_47_1, Try.ld_9, Try.len_9, Try.st_9, Try.fa_47_0, Try.ld_3, Try.fa_47_2, Try.ld_2, callV_func Try.enters_28, callV_func Try.enters_29, callV_func Try.enters_30, callV_func Try.enters_31, callV_func Try.enters_24, callV_func Try.enters_33, callV_func Try.enters_32, callV_func Try.enters_26, callV_func Try.enters_22, callV_func Try.enters_34, callV_func Try.enters_23, allocV_zero Try.zero_32, Try.st_32, callV_func Try.enters_20, Try.fa_45_0, Try.ld_43, Try.len_43, callV_func Try.enters_19, Try.ld_32, Try.ia_43, Try.ld_55, callV_func Try.enters_25, x51,  at_run f.toFree3 w8.h, t0,  t3,  t4,  t5,  hlt',  hlt,  h100',  hld3,  e4,  t5',  Value.cells,  List.size_toArray,  hc1,  min_int,  hmin,  hsl,  t6,  hwi,  KInv_normal,  Int.reduceEq,  RetAt_mkg,  RetAt_lastg,  implies_true, rs_tmp (show Try.f5.results = #[.tmp 2] from rfl)]
        refine rat_run f w8.r w8.h.kd _ (by omega) (by omega) ?_
        simp (maxSteps := 2000000) only [B0, B1, B2, B3, B4, B5, B6, B7, Gd, extV, Nat.reduceLT, Nat.reduceEqDiff, Nat.reduceBEq, Nat.reduceAdd, Nat.reduceSub, Nat.reduceMul, ↓reduceIte, reduceCtorEq, if_true, if_false, ite_true, ite_false, Int.reduceLT, Int.reduceLE, ptr, callV_func Try.enters_27, Try.len_22, Try.ia_22, Try.ld_47, allocV_zero Try.zero_47, Try.st_47, Try.fa_47_1, Try.ld_9, Try.len_9, Try.st_9, Try.fa_47_0, Try.ld_3, Try.fa_47_2, Try.ld_2, callV_func Try.enters_28, callV_func Try.enters_29, callV_func Try.enters_30, callV_func Try.enters_31, callV_func Try.enters_24, callV_func Try.enters_33, callV_func Try.enters_32, callV_func Try.enters_26, callV_func Try.enters_22, callV_func Try.enters_34, callV_func Try.enters_23, allocV_zero Try.zero_32, Try.st_32, callV_func Try.enters_20, Try.fa_45_0, Try.ld_43, Try.len_43, callV_func Try.enters_19, Try.ld_32, Try.ia_43, Try.ld_55, callV_func Try.enters_25, t0,  t3,  t4,  t5,  hlt',  hlt,  h100',  hld3,  e4,  t5',  Value.cells,  List.size_toArray,  hc1,  min_int,  hmin,  hsl,  t6,  hwi,  KInv_normal,  Int.reduceEq,  RetAt_mkg,  RetAt_lastg,  implies_true, rs_tmp (show Try.f5.results = #[.tmp 2] from rfl)]
        refine next_run f.toFree3 w8.h fun σ18 c8 hS18 hc0 hc1 => ?_
        obtain ⟨σ19, σ20, e19, t20, hS20, v20, hn20, _⟩ := AE.newVar σ18 32 [.string ⟨#[]⟩, .int .i64 0] (encA (L9.headD (⟨#[]⟩, 0))) rfl (encA_single _)
        have w20 := (w8.step hS18).step hS20
        simp only [encA] at t20
        simp (maxSteps := 2000000) only [B0, B1, B2, B3, B4, B5, B6, B7, Gd, extV, Nat.reduceLT, Nat.reduceEqDiff, Nat.reduceBEq, Nat.reduceAdd, Nat.reduceSub, Nat.reduceMul, ↓reduceIte, reduceCtorEq, if_true, if_false, ite_true, ite_false, Int.reduceLT, Int.reduceLE, ptr, callV_func Try.enters_27, Try.len_22, Try.ia_22, Try.ld_47, allocV_zero Try.zero_47, Try.st_47, Try.fa_47_1, Try.ld_9, Try.len_9, Try.st_9, Try.fa_47_0, Try.ld_3, Try.fa_47_2, Try.ld_2, callV_func Try.enters_28, callV_func Try.enters_29, callV_func Try.enters_30, callV_func Try.enters_31, callV_func Try.enters_24, callV_func Try.enters_33, callV_func Try.enters_32, callV_func Try.enters_26, callV_func Try.enters_22, callV_func Try.enters_34, callV_func Try.enters_23, allocV_zero Try.zero_32, Try.st_32, callV_func Try.enters_20, Try.fa_45_0, Try.ld_43, Try.len_43, callV_func Try.enters_19, Try.ld_32, Try.ia_43, Try.ld_55, callV_func Try.enters_25, alV,  e19,  t20,  Value.cells,  List.size_toArray, t0,  t3,  t4,  t5,  hlt',  hlt,  h100',  hld3,  e4,  t5',  Value.cells,  List.size_toArray,  hc1,  min_int,  hmin,  hsl,  t6,  hwi,  KInv_normal,  Int.reduceEq,  RetAt_mkg,  RetAt_lastg,  implies_true, rs_tmp (show Try.f5.results = #[.tmp 2] from rfl)]
        refine Eq.mpr (W_retold (ps := [(10, 14), (10, 15), (20, 24)]) (by kernel_rfl) (by kernel_rfl) (by simp)) ?_
        obtain ⟨a20, k20, ev20, hk20⟩ := w20.r.sl.len
        have ld20 := w20.r.ld0
        rw [ev20] at ld20
        simp (maxSteps := 2000000) only [B0, B1, B2, B3, B4, B5, B6, B7, Gd, extV, Nat.reduceLT, Nat.reduceEqDiff, Nat.reduceBEq, Nat.reduceAdd, Nat.reduceSub, Nat.reduceMul, ↓reduceIte, reduceCtorEq, if_true, if_false, ite_true, ite_false, Int.reduceLT, Int.reduceLE, ptr, callV_func Try.enters_27, Try.len_22, Try.ia_22, Try.ld_47, allocV_zero Try.zero_47, Try.st_47, Try.fa_47_1, Try.ld_9, Try.len_9, Try.st_9, Try.fa_47_0, Try.ld_3, Try.fa_47_2, Try.ld_2, callV_func Try.enters_28, callV_func Try.enters_29, callV_func Try.enters_30, callV_func Try.enters_31, callV_func Try.enters_24, callV_func Try.enters_33, callV_func Try.enters_32, callV_func Try.enters_26, callV_func Try.enters_22, callV_func Try.enters_34, callV_func Try.enters_23, allocV_zero Try.zero_32, Try.st_32, callV_func Try.enters_20, Try.fa_45_0, Try.ld_43, Try.len_43, callV_func Try.enters_19, Try.ld_32, Try.ia_43, Try.ld_55, callV_func Try.enters_25, len_h f.toFree w20.h,  ld20,  bin_bneq Try.underlying4, t0,  t3,  t4,  t5,  hlt',  hlt,  h100',  hld3,  e4,  t5',  Value.cells,  List.size_toArray,  hc1,  min_int,  hmin,  hsl,  t6,  hwi,  KInv_normal,  Int.reduceEq,  RetAt_mkg,  RetAt_lastg,  implies_true, rs_tmp (show Try.f5.results = #[.tmp 2] from rfl)]
        refine all_run f.toFree4 w20.h (by omega) fun σ21 v21 hv21 hb21 hS21 => ?_
        have w21 := w20.step hS21
        have ld21 := w21.r.ld0
        rw [ev20] at ld21
        simp (maxSteps := 2000000) only [B0, B1, B2, B3, B4, B5, B6, B7, Gd, extV, Nat.reduceLT, Nat.reduceEqDiff, Nat.reduceBEq, Nat.reduceAdd, Nat.reduceSub, Nat.reduceMul, ↓reduceIte, reduceCtorEq, if_true, if_false, ite_true, ite_false, Int.reduceLT, Int.reduceLE, ptr, callV_func Try.enters_27, Try.len_22, Try.ia_22, Try.ld_47, allocV_zero Try.zero_47, Try.st_47, Try.fa_47_1, Try.ld_9, Try.len_9, Try.st_9, Try.fa_47_0, Try.ld_3, Try.fa_47_2, Try.ld_2, callV_func Try.enters_28, callV_func Try.enters_29, callV_func Try.enters_30, callV_func Try.enters_31, callV_func Try.enters_24, callV_func Try.enters_33, callV_func Try.enters_32, callV_func Try.enters_26, callV_func Try.enters_22, callV_func Try.enters_34, callV_func Try.enters_23, allocV_zero Try.zero_32, Try.st_32, callV_func Try.enters_20, Try.fa_45_0, Try.ld_43, Try.len_43, callV_func Try.enters_19, Try.ld_32, Try.ia_43, Try.ld_55, callV_func Try.enters_25, ld21, t0,  t3,  t4,  t5,  hlt',  hlt,  h100',  hld3,  e4,  t5',  Value.cells,  List.size_toArray,  hc1,  min_int,  hmin,  hsl,  t6,  hwi,  KInv_normal,  Int.reduceEq,  RetAt_mkg,  RetAt_lastg,  implies_true, rs_tmp (show Try.f5.results = #[.tmp 2] from rfl)]
        refine same_run f.h32 hv21 (by have := w21.r.sl; rw [ev20] at this; exact this) (by omega) (by omega) ?_
        have l21 : ldCells σ21 σ18.next 0 2 = some [.string (L9.headD (⟨#[]⟩, 0)).1, .int .i64 (L9.headD (⟨#[]⟩, 0)).2] := (v20.same hS21 nofun).ldCells
        have sl21 := w21.r.sl
        rw [ev20] at sl21
        cases L9 with
        | nil =>
          have := hc0 rfl
          subst this
          have bz : ∀ {u z}, bin Try.prog .neq 32 u z (.agg #[.string ⟨#[]⟩, .int .i64 0]) (.agg #[.string ⟨#[]⟩, .int .i64 0]) = some (.bool false) := by
            intro u z; have := bin_al_ne (x := u) (y := z) (a := (⟨#[]⟩, 0)) (b := (⟨#[]⟩, 0)); simpa [alV] using this
          simp only [List.headD_nil] at l21
          simp (maxSteps := 2000000) only [B0, B1, B2, B3, B4, B5, B6, B7, Gd, extV, Nat.reduceLT, Nat.reduceEqDiff, Nat.reduceBEq, Nat.reduceAdd, Nat.reduceSub, Nat.reduceMul, ↓reduceIte, reduceCtorEq, if_true, if_false, ite_true, ite_false, Int.reduceLT, Int.reduceLE, ptr, callV_func Try.enters_27, Try.len_22, Try.ia_22, Try.ld_47, allocV_zero Try.zero_47, Try.st_47, Try.fa_47_1, Try.ld_9, Try.len_9, Try.st_9, Try.fa_47_0, Try.ld_3, Try.fa_47_2, Try.ld_2, callV_func Try.enters_28, callV_func Try.enters_29, callV_func Try.enters_30, callV_func Try.enters_31, callV_func Try.enters_24, callV_func Try.enters_33, callV_func Try.enters_32, callV_func Try.enters_26, callV_func Try.enters_22, callV_func Try.enters_34, callV_func Try.enters_23, allocV_zero Try.zero_32, Try.st_32, callV_func Try.enters_20, Try.fa_45_0, Try.ld_43, Try.len_43, callV_func Try.enters_19, Try.ld_32, Try.ia_43, Try.ld_55, callV_func Try.enters_25, ld20,  ld21,  len_h f.toFree w20.h,  bin_bneq Try.underlying4,  List.length_nil,  l21,  b32z,  bz, t0,  t3,  t4,  t5,  hlt',  hlt,  h100',  hld3,  e4,  t5',  Value.cells,  List.size_toArray,  hc1,  min_int,  hmin,  hsl,  t6,  hwi,  KInv_normal,  Int.reduceEq,  RetAt_mkg,  RetAt_lastg,  implies_true, rs_tmp (show Try.f5.results = #[.tmp 2] from rfl)]
          exact ⟨99 - i, by omega, _, i + 1, _, _, _, [], rfl, by simp [get_put, t0], by simp [get_put, t3], by simp [get_put, t4], by simp [get_put], by omega, by simp, w21⟩
        | cons y l =>
          have := hc1 _ _ rfl
          subst this
          have hposn : 0 < (y :: l).length := by simp
          have hpos : (0 : Int) < ((y :: l).length : Int) := by omega
          obtain ⟨b9, o9, cap9, g9, e, hcap9, hbl9, hr9⟩ := sl21.at_ (i := 0) rfl
          injection e with e _ e3
          subst e e3
          have l9 := hr9.ldCells encOk (i := 0) rfl
          simp only [encA, Nat.zero_mul, Nat.add_zero] at l9
          simp only [List.headD_cons] at l21
          generalize hlen : (y :: l).length = len9 at *
          simp (maxSteps := 2000000) only [B0, B1, B2, B3, B4, B5, B6, B7, Gd, extV, Nat.reduceLT, Nat.reduceEqDiff, Nat.reduceBEq, Nat.reduceAdd, Nat.reduceSub, Nat.reduceMul, ↓reduceIte, reduceCtorEq, if_true, if_false, ite_true, ite_false, Int.reduceLT, Int.reduceLE, ptr, callV_func Try.enters_27, Try.len_22, Try.ia_22, Try.ld_47, allocV_zero Try.zero_47, Try.st_47, Try.fa_47_1, Try.ld_9, Try.len_9, Try.st_9, Try.fa_47_0, Try.ld_3, Try.fa_47_2, Try.ld_2, callV_func Try.enters_28, callV_func Try.enters_29, callV_func Try.enters_30, callV_func Try.enters_31, callV_func Try.enters_24, callV_func Try.enters_33, callV_func Try.enters_32, callV_func Try.enters_26, callV_func Try.enters_22, callV_func Try.enters_34, callV_func Try.enters_23, allocV_zero Try.zero_32, Try.st_32, callV_func Try.enters_20, Try.fa_45_0, Try.ld_43, Try.len_43, callV_func Try.enters_19, Try.ld_32, Try.ia_43, Try.ld_55, callV_func Try.enters_25, ld20,  ld21,  len_h f.toFree w20.h,  bin_bneq Try.underlying4,  hpos,  hposn,  l21,  l9,  bin_al55,  hlen,  Nat.zero_mul, t0,  t3,  t4,  t5,  hlt',  hlt,  h100',  hld3,  e4,  t5',  Value.cells,  List.size_toArray,  hc1,  min_int,  hmin,  hsl,  t6,  hwi,  KInv_normal,  Int.reduceEq,  RetAt_mkg,  RetAt_lastg,  implies_true, rs_tmp (show Try.f5.results = #[.tmp 2] from rfl)]
          exact ⟨99 - i, by omega, _, i + 1, _, _, _, y :: l, rfl, by simp [get_put, t0], by simp [get_put, t3], by simp [get_put, t4], by simp [get_put], by omega, by omega, w21⟩
      · simp (maxSteps := 2000000) only [B0, B1, B2, B3, B4, B5, B6, B7, Gd, extV, Nat.reduceLT, Nat.reduceEqDiff, Nat.reduceBEq, Nat.reduceAdd, Nat.reduceSub, Nat.reduceMul, ↓reduceIte, reduceCtorEq, if_true, if_false, ite_true, ite_false, Int.reduceLT, Int.reduceLE, ptr, callV_func Try.enters_27, Try.len_22, Try.ia_22, Try.ld_47, allocV_zero Try.zero_47, Try.st_47, Try.fa_47_1, Try.ld_9, Try.len_9, Try.st_9, Try.fa_47_0, Try.ld_3, Try.fa_47_2, Try.ld_2, callV_func Try.enters_28, callV_func Try.enters_29, callV_func Try.enters_30, callV_func Try.enters_31, callV_func Try.enters_24, callV_func Try.enters_33, callV_func Try.enters_32, callV_func Try.enters_26, callV_func Try.enters_22, callV_func Try.enters_34, callV_func Try.enters_23, allocV_zero Try.zero_32, Try.st_32, callV_func Try.enters_20, Try.fa_45_0, Try.ld_43, Try.len_43, callV_func Try.enters_19, Try.ld_32, Try.ia_43, Try.ld_55, callV_func Try.enters_25, x60, t0,  t3,  t4,  t5,  hlt',  hlt,  h100',  hld3,  e4,  t5',  Value.cells,  List.size_toArray,  hc1,  min_int,  hmin,  hsl,  t6,  hwi,  KInv_normal,  Int.reduceEq,  RetAt_mkg,  RetAt_lastg,  implies_true, rs_tmp (show Try.f5.results = #[.tmp 2] from rfl)]
        refine Eq.mpr (W_retold (ps := [(5, 8), (5, 10)]) (by kernel_rfl) (by kernel_rfl) (by simp)) ?_
        simp (maxSteps := 2000000) only [B0, B1, B2, B3, B4, B5, B6, B7, Gd, extV, Nat.reduceLT, Nat.reduceEqDiff, Nat.reduceBEq, Nat.reduceAdd, Nat.reduceSub, Nat.reduceMul, ↓reduceIte, reduceCtorEq, if_true, if_false, ite_true, ite_false, Int.reduceLT, Int.reduceLE, ptr, callV_func Try.enters_27, Try.len_22, Try.ia_22, Try.ld_47, allocV_zero Try.zero_47, Try.st_47, Try.fa_47_1, Try.ld_9, Try.len_9, Try.st_9, Try.fa_47_0, Try.ld_3, Try.fa_47_2, Try.ld_2, callV_func Try.enters_28, callV_func Try.enters_29, callV_func Try.enters_30, callV_func Try.enters_31, callV_func Try.enters_24, callV_func Try.enters_33, callV_func Try.enters_32, callV_func Try.enters_26, callV_func Try.enters_22, callV_func Try.enters_34, callV_func Try.enters_23, allocV_zero Try.zero_32, Try.st_32, callV_func Try.enters_20, Try.fa_45_0, Try.ld_43, Try.len_43, callV_func Try.enters_19, Try.ld_32, Try.ia_43, Try.ld_55, callV_func Try.enters_25, x61,  x62, t0,  t3,  t4,  t5,  hlt',  hlt,  h100',  hld3,  e4,  t5',  Value.cells,  List.size_toArray,  hc1,  min_int,  hmin,  hsl,  t6,  hwi,  KInv_normal,  Int.reduceEq,  RetAt_mkg,  RetAt_lastg,  implies_true, rs_tmp (show Try.f5.results = #[.tmp 2] from rfl)]
        refine set_run f.toFree3 w6.h (key ky) tm (by omega) (by omega) fun σ7 F7 h7 hF7 hS7 => ?_
        have x7 := x6.same hS7 hfr.1
        have x71 := x7.ld (o := 1) rfl
        have x72 := x7.ld (o := 2) rfl
        simp (maxSteps := 2000000) only [B0, B1, B2, B3, B4, B5, B6, B7, Gd, extV, Nat.reduceLT, Nat.reduceEqDiff, Nat.reduceBEq, Nat.reduceAdd, Nat.reduceSub, Nat.reduceMul, ↓reduceIte, reduceCtorEq, if_true, if_false, ite_true, ite_false, Int.reduceLT, Int.reduceLE, ptr, callV_func Try.enters_27, Try.len_22, Try.ia_22, Try.ld_47, allocV_zero Try.zero_47, Try.st_47, Try.fa_47_1, Try.ld_9, Try.len_9, Try.st_9, Try.fa_47_0, Try.ld_3, Try.fa_47_2, Try.ld_2, callV_func Try.enters_28, callV_func Try.enters_29, callV_func Try.enters_30, callV_func Try.enters_31, callV_func Try.enters_24, callV_func Try.enters_33, callV_func Try.enters_32, callV_func Try.enters_26, callV_func Try.enters_22, callV_func Try.enters_34, callV_func Try.enters_23, allocV_zero Try.zero_32, Try.st_32, callV_func Try.enters_20, Try.fa_45_0, Try.ld_43, Try.len_43, callV_func Try.enters_19, Try.ld_32, Try.ia_43, Try.ld_55, callV_func Try.enters_25, x71,  x72, t0,  t3,  t4,  t5,  hlt',  hlt,  h100',  hld3,  e4,  t5',  Value.cells,  List.size_toArray,  hc1,  min_int,  hmin,  hsl,  t6,  hwi,  KInv_normal,  Int.reduceEq,  RetAt_mkg,  RetAt_lastg,  implies_true, rs_tmp (show Try.f5.results = #[.tmp 2] from rfl)]
        refine rset_run f (w6.r.same hS7 w6.qF w6.vF) hkd (key ky) tm (by omega) (by omega) fun σ8 v8 h8 hv8 hS8 => ?_
        have w8 := w6.call h7 hF7 hS7 h8 (fun b hb => by rcases hv8 b hb with z | z; exact .inl z; exact .inr z) hS8
        have x8 := x7.same hS8 (by simp; exact hfr.2.1)
        generalize (if bad (key ky) tm then L else setA (key ky) tm L) = L9 at *
        simp (maxSteps := 2000000) only [B0, B1, B2, B3, B4, B5, B6, B7, Gd, extV, Nat.reduceLT, Nat.reduceEqDiff, Nat.reduceBEq, Nat.reduceAdd, Nat.reduceSub, Nat.reduceMul, ↓reduceIte, reduceCtorEq, if_true, if_false, ite_true, ite_false, Int.reduceLT, Int.reduceLE, ptr, callV_func Try.enters_27, Try.len_22, Try.ia_22, Try.ld_47, allocV_zero Try.zero_47, Try.st_47, Try.fa_47_1, Try.ld_9, Try.len_9, Try.st_9, Try.fa_47_0, Try.ld_3, Try.fa_47_2, Try.ld_2, callV_func Try.enters_28, callV_func Try.enters_29, callV_func Try.enters_30, callV_func Try.enters_31, callV_func Try.enters_24, callV_func Try.enters_33, callV_func Try.enters_32, callV_func Try.enters_26, callV_func Try.enters_22, callV_func Try.enters_34, callV_func Try.enters_23, allocV_zero Try.zero_32, Try.st_32, callV_func Try.enters_20, Try.fa_45_0, Try.ld_43, Try.len_43, callV_func Try.enters_19, Try.ld_32, Try.ia_43, Try.ld_55, callV_func Try.enters_25, x61,  x62,  x71,  x72, t0,  t3,  t4,  t5,  hlt',  hlt,  h100',  hld3,  e4,  t5',  Value.cells,  List.size_toArray,  hc1,  min_int,  hmin,  hsl,  t6,  hwi,  KInv_normal,  Int.reduceEq,  RetAt_mkg,  RetAt_lastg,  implies_true, rs_tmp (show Try.f5.results = #[.tmp 2] from rfl)]
        have x51 := x8.ld (o := 1) rfl
        simp (maxSteps := 2000000) only [B0, B1, B2, B3, B4, B5, B6, B7, Gd, extV, Nat.reduceLT, Nat.reduceEqDiff, Nat.reduceBEq, Nat.reduceAdd, Nat.reduceSub, Nat.reduceMul, ↓reduceIte, reduceCtorEq, if_true, if_false, ite_true, ite_false, Int.reduceLT, Int.reduceLE, ptr, callV_func Try.enters_27, Try.len_22, Try.ia_22, Try.ld_47, allocV_zero Try.zero_47, Try.st_47, Try.fa_47_1, Try.ld_9, Try.len_9, Try.st_9, Try.fa_47_0, Try.ld_3, Try.fa_47_2, Try.ld_2, callV_func Try.enters_28, callV_func Try.enters_29, callV_func Try.enters_30, callV_func Try.enters_31, callV_func Try.enters_24, callV_func Try.enters_33, callV_func Try.enters_32, callV_func Try.enters_26, callV_func Try.enters_22, callV_func Try.enters_34, callV_func Try.enters_23, allocV_zero Try.zero_32, Try.st_32, callV_func Try.enters_20, Try.fa_45_0, Try.ld_43, Try.len_43, callV_func Try.enters_19, Try.ld_32, Try.ia_43, Try.ld_55, callV_func Try.enters_25, x51,  at_run f.toFree3 w8.h, t0,  t3,  t4,  t5,  hlt',  hlt,  h100',  hld3,  e4,  t5',  Value.cells,  List.size_toArray,  hc1,  min_int,  hmin,  hsl,  t6,  hwi,  KInv_normal,  Int.reduceEq,  RetAt_mkg,  RetAt_lastg,  implies_true, rs_tmp (show Try.f5.results = #[.tmp 2] from rfl)]
        refine rat_run f w8.r w8.h.kd _ (by omega) (by omega) ?_
        simp (maxSteps := 2000000) only [B0, B1, B2, B3, B4, B5, B6, B7, Gd, extV, Nat.reduceLT, Nat.reduceEqDiff, Nat.reduceBEq, Nat.reduceAdd, Nat.reduceSub, Nat.reduceMul, ↓reduceIte, reduceCtorEq, if_true, if_false, ite_true, ite_false, Int.reduceLT, Int.reduceLE, ptr, callV_func Try.enters_27, Try.len_22, Try.ia_22, Try.ld_47, allocV_zero Try.zero_47, Try.st_47, Try.fa_47_1, Try.ld_9, Try.len_9, Try.st_9, Try.fa_47_0, Try.ld_3, Try.fa_47_2, Try.ld_2, callV_func Try.enters_28, callV_func Try.enters_29, callV_func Try.enters_30, callV_func Try.enters_31, callV_func Try.enters_24, callV_func Try.enters_33, callV_func Try.enters_32, callV_func Try.enters_26, callV_func Try.enters_22, callV_func Try.enters_34, callV_func Try.enters_23, allocV_zero Try.zero_32, Try.st_32, callV_func Try.enters_20, Try.fa_45_0, Try.ld_43, Try.len_43, callV_func Try.enters_19, Try.ld_32, Try.ia_43, Try.ld_55, callV_func Try.enters_25, t0,  t3,  t4,  t5,  hlt',  hlt,  h100',  hld3,  e4,  t5',  Value.cells,  List.size_toArray,  hc1,  min_int,  hmin,  hsl,  t6,  hwi,  KInv_normal,  Int.reduceEq,  RetAt_mkg,  RetAt_lastg,  implies_true, rs_tmp (show Try.f5.results = #[.tmp 2] from rfl)]
        refine next_run f.toFree3 w8.h fun σ18 c8 hS18 hc0 hc1 => ?_
        obtain ⟨σ19, σ20, e19, t20, hS20, v20, hn20, _⟩ := AE.newVar σ18 32 [.string ⟨#[]⟩, .int .i64 0] (encA (L9.headD (⟨#[]⟩, 0))) rfl (encA_single _)
        have w20 := (w8.step hS18).step hS20
        simp only [encA] at t20
        simp (maxSteps := 2000000) only [B0, B1, B2, B3, B4, B5, B6, B7, Gd, extV, Nat.reduceLT, Nat.reduceEqDiff, Nat.reduceBEq, Nat.reduceAdd, Nat.reduceSub, Nat.reduceMul, ↓reduceIte, reduceCtorEq, if_true, if_false, ite_true, ite_false, Int.reduceLT, Int.reduceLE, ptr, callV_func Try.enters_27, Try.len_22, Try.ia_22, Try.ld_47, allocV_zero Try.zero_47, Try.st_47, Try.fa_47_1, Try.ld_9, Try.len_9, Try.st_9, Try.fa_47_0, Try.ld_3, Try.fa_47_2, Try.ld_2, callV_func Try.enters_28, callV_func Try.enters_29, callV_func Try.enters_30, callV_func Try.enters_31, callV_func Try.enters_24, callV_func Try.enters_33, callV_func Try.enters_32, callV_func Try.enters_26, callV_func Try.enters_22, callV_func Try.enters_34, callV_func Try.enters_23, allocV_zero Try.zero_32, Try.st_32, callV_func Try.enters_20, Try.fa_45_0, Try.ld_43, Try.len_43, callV_func Try.enters_19, Try.ld_32, Try.ia_43, Try.ld_55, callV_func Try.enters_25, alV,  e19,  t20,  Value.cells,  List.size_toArray, t0,  t3,  t4,  t5,  hlt',  hlt,  h100',  hld3,  e4,  t5',  Value.cells,  List.size_toArray,  hc1,  min_int,  hmin,  hsl,  t6,  hwi,  KInv_normal,  Int.reduceEq,  RetAt_mkg,  RetAt_lastg,  implies_true, rs_tmp (show Try.f5.results = #[.tmp 2] from rfl)]
        refine Eq.mpr (W_retold (ps := [(10, 14), (10, 15), (20, 24)]) (by kernel_rfl) (by kernel_rfl) (by simp)) ?_
        obtain ⟨a20, k20, ev20, hk20⟩ := w20.r.sl.len
        have ld20 := w20.r.ld0
        rw [ev20] at ld20
        simp (maxSteps := 2000000) only [B0, B1, B2, B3, B4, B5, B6, B7, Gd, extV, Nat.reduceLT, Nat.reduceEqDiff, Nat.reduceBEq, Nat.reduceAdd, Nat.reduceSub, Nat.reduceMul, ↓reduceIte, reduceCtorEq, if_true, if_false, ite_true, ite_false, Int.reduceLT, Int.reduceLE, ptr, callV_func Try.enters_27, Try.len_22, Try.ia_22, Try.ld_47, allocV_zero Try.zero_47, Try.st_47, Try.fa_47_1, Try.ld_9, Try.len_9, Try.st_9, Try.fa_47_0, Try.ld_3, Try.fa_47_2, Try.ld_2, callV_func Try.enters_28, callV_func Try.enters_29, callV_func Try.enters_30, callV_func Try.enters_31, callV_func Try.enters_24, callV_func Try.enters_33, callV_func Try.enters_32, callV_func Try.enters_26, callV_func Try.enters_22, callV_func Try.enters_34, callV_func Try.enters_23, allocV_zero Try.zero_32, Try.st_32, callV_func Try.enters_20, Try.fa_45_0, Try.ld_43, Try.len_43, callV_func Try.enters_19, Try.ld_32, Try.ia_43, Try.ld_55, callV_func Try.enters_25, len_h f.toFree w20.h,  ld20,  bin_bneq Try.underlying4, t0,  t3,  t4,  t5,  hlt',  hlt,  h100',  hld3,  e4,  t5',  Value.cells,  List.size_toArray,  hc1,  min_int,  hmin,  hsl,  t6,  hwi,  KInv_normal,  Int.reduceEq,  RetAt_mkg,  RetAt_lastg,  implies_true, rs_tmp (show Try.f5.results = #[.tmp 2] from rfl)]
        refine all_run f.toFree4 w20.h (by omega) fun σ21 v21 hv21 hb21 hS21 => ?_
        have w21 := w20.step hS21
        have ld21 := w21.r.ld0
        rw [ev20] at ld21
        simp (maxSteps := 2000000) only [B0, B1, B2, B3, B4, B5, B6, B7, Gd, extV, Nat.reduceLT, Nat.reduceEqDiff, Nat.reduceBEq, Nat.reduceAdd, Nat.reduceSub, Nat.reduceMul, ↓reduceIte, reduceCtorEq, if_true, if_false, ite_true, ite_false, Int.reduceLT, Int.reduceLE, ptr, callV_func Try.enters_27, Try.len_22, Try.ia_22, Try.ld_47, allocV_zero Try.zero_47, Try.st_47, Try.fa_47_1, Try.ld_9, Try.len_9, Try.st_9, Try.fa_47_0, Try.ld_3, Try.fa_47_2, Try.ld_2, callV_func Try.enters_28, callV_func Try.enters_29, callV_func Try.enters_30, callV_func Try.enters_31, callV_func Try.enters_24, callV_func Try.enters_33, callV_func Try.enters_32, callV_func Try.enters_26, callV_func Try.enters_22, callV_func Try.enters_34, callV_func Try.enters_23, allocV_zero Try.zero_32, Try.st_32, callV_func Try.enters_20, Try.fa_45_0, Try.ld_43, Try.len_43, callV_func Try.enters_19, Try.ld_32, Try.ia_43, Try.ld_55, callV_func Try.enters_25, ld21, t0,  t3,  t4,  t5,  hlt',  hlt,  h100',  hld3,  e4,  t5',  Value.cells,  List.size_toArray,  hc1,  min_int,  hmin,  hsl,  t6,  hwi,  KInv_normal,  Int.reduceEq,  RetAt_mkg,  RetAt_lastg,  implies_true, rs_tmp (show Try.f5.results = #[.tmp 2] from rfl)]
        refine same_run f.h32 hv21 (by have := w21.r.sl; rw [ev20] at this; exact this) (by omega) (by omega) ?_
        have l21 : ldCells σ21 σ18.next 0 2 = some [.string (L9.headD (⟨#[]⟩, 0)).1, .int .i64 (L9.headD (⟨#[]⟩, 0)).2] := (v20.same hS21 nofun).ldCells
        have sl21 := w21.r.sl
        rw [ev20] at sl21
        cases L9 with
        | nil =>
          have := hc0 rfl
          subst this
          have bz : ∀ {u z}, bin Try.prog .neq 32 u z (.agg #[.string ⟨#[]⟩, .int .i64 0]) (.agg #[.string ⟨#[]⟩, .int .i64 0]) = some (.bool false) := by
            intro u z; have := bin_al_ne (x := u) (y := z) (a := (⟨#[]⟩, 0)) (b := (⟨#[]⟩, 0)); simpa [alV] using this
          simp only [List.headD_nil] at l21
          simp (maxSteps := 2000000) only [B0, B1, B2, B3, B4, B5, B6, B7, Gd, extV, Nat.reduceLT, Nat.reduceEqDiff, Nat.reduceBEq, Nat.reduceAdd, Nat.reduceSub, Nat.reduceMul, ↓reduceIte, reduceCtorEq, if_true, if_false, ite_true, ite_false, Int.reduceLT, Int.reduceLE, ptr, callV_func Try.enters_27, Try.len_22, Try.ia_22, Try.ld_47, allocV_zero Try.zero_47, Try.st_47, Try.fa_47_1, Try.ld_9, Try.len_9, Try.st_9, Try.fa_47_0, Try.ld_3, Try.fa_47_2, Try.ld_2, callV_func Try.enters_28, callV_func Try.enters_29, callV_func Try.enters_30, callV_func Try.enters_31, callV_func Try.enters_24, callV_func Try.enters_33, callV_func Try.enters_32, callV_func Try.enters_26, callV_func Try.enters_22, callV_func Try.enters_34, callV_func Try.enters_23, allocV_zero Try.zero_32, Try.st_32, callV_func Try.enters_20, Try.fa_45_0, Try.ld_43, Try.len_43, callV_func Try.enters_19, Try.ld_32, Try.ia_43, Try.ld_55, callV_func Try.enters_25, ld20,  ld21,  len_h f.toFree w20.h,  bin_bneq Try.underlying4,  List.length_nil,  l21,  b32z,  bz, t0,  t3,  t4,  t5,  hlt',  hlt,  h100',  hld3,  e4,  t5',  Value.cells,  List.size_toArray,  hc1,  min_int,  hmin,  hsl,  t6,  hwi,  KInv_normal,  Int.reduceEq,  RetAt_mkg,  RetAt_lastg,  implies_true, rs_tmp (show Try.f5.results = #[.tmp 2] from rfl)]
          exact ⟨99 - i, by omega, _, i + 1, _, _, _, [], rfl, by simp [get_put, t0], by simp [get_put, t3], by simp [get_put, t4], by simp [get_put], by omega, by simp, w21⟩
        | cons y l =>
          have := hc1 _ _ rfl
          subst this
          have hposn : 0 < (y :: l).length := by simp
          have hpos : (0 : Int) < ((y :: l).length : Int) := by omega
          obtain ⟨b9, o9, cap9, g9, e, hcap9, hbl9, hr9⟩ := sl21.at_ (i := 0) rfl
          injection e with e _ e3
          subst e e3
          have l9 := hr9.ldCells encOk (i := 0) rfl
          simp only [encA, Nat.zero_mul, Nat.add_zero] at l9
          simp only [List.headD_cons] at l21
          generalize hlen : (y :: l).length = len9 at *
          simp (maxSteps := 2000000) only [B0, B1, B2, B3, B4, B5, B6, B7, Gd, extV, Nat.reduceLT, Nat.reduceEqDiff, Nat.reduceBEq, Nat.reduceAdd, Nat.reduceSub, Nat.reduceMul, ↓reduceIte, reduceCtorEq, if_true, if_false, ite_true, ite_false, Int.reduceLT, Int.reduceLE, ptr, callV_func Try.enters_27, Try.len_22, Try.ia_22, Try.ld_47, allocV_zero Try.zero_47, Try.st_47, Try.fa_47_1, Try.ld_9, Try.len_9, Try.st_9, Try.fa_47_0, Try.ld_3, Try.fa_47_2, Try.ld_2, callV_func Try.enters_28, callV_func Try.enters_29, callV_func Try.enters_30, callV_func Try.enters_31, callV_func Try.enters_24, callV_func Try.enters_33, callV_func Try.enters_32, callV_func Try.enters_26, callV_func Try.enters_22, callV_func Try.enters_34, callV_func Try.enters_23, allocV_zero Try.zero_32, Try.st_32, callV_func Try.enters_20, Try.fa_45_0, Try.ld_43, Try.len_43, callV_func Try.enters_19, Try.ld_32, Try.ia_43, Try.ld_55, callV_func Try.enters_25, ld20,  ld21,  len_h f.toFree w20.h,  bin_bneq Try.underlying4,  hpos,  hposn,  l21,  l9,  bin_al55,  hlen,  Nat.zero_mul, t0,  t3,  t4,  t5,  hlt',  hlt,  h100',  hld3,  e4,  t5',  Value.cells,  List.size_toArray,  hc1,  min_int,  hmin,  hsl,  t6,  hwi,  KInv_normal,  Int.reduceEq,  RetAt_mkg,  RetAt_lastg,  implies_true, rs_tmp (show Try.f5.results = #[.tmp 2] from rfl)]
          exact ⟨99 - i, by omega, _, i + 1, _, _, _, y :: l, rfl, by simp [get_put, t0], by simp [get_put, t3], by simp [get_put, t4], by simp [get_put], by omega, by omega, w21⟩
    · have n0 : (w = 0) = False := eq_false (by omega)
      have n1 : (w = 1) = False := eq_false (by omega)
      have n2 : (w = 2) = False := eq_false (by omega)
      by_cases c3 : w = 3
      · subst c3
        simp (maxSteps := 2000000) only [B0, B1, B2, B3, B4, B5, B6, B7, Gd, extV, Nat.reduceLT, Nat.reduceEqDiff, Nat.reduceBEq, Nat.reduceAdd, Nat.reduceSub, Nat.reduceMul, ↓reduceIte, reduceCtorEq, if_true, if_false, ite_true, ite_false, Int.reduceLT, Int.reduceLE, ptr, callV_func Try.enters_27, Try.len_22, Try.ia_22, Try.ld_47, allocV_zero Try.zero_47, Try.st_47, Try.fa_47_1, Try.ld_9, Try.len_9, Try.st_9, Try.fa_47_0, Try.ld_3, Try.fa_47_2, Try.ld_2, callV_func Try.enters_28, callV_func Try.enters_29, callV_func Try.enters_30, callV_func Try.enters_31, callV_func Try.enters_24, callV_func Try.enters_33, callV_func Try.enters_32, callV_func Try.enters_26, callV_func Try.enters_22, callV_func Try.enters_34, callV_func Try.enters_23, allocV_zero Try.zero_32, Try.st_32, callV_func Try.enters_20, Try.fa_45_0, Try.ld_43, Try.len_43, callV_func Try.enters_19, Try.ld_32, Try.ia_43, Try.ld_55, callV_func Try.enters_25, x60,  n0,  n1,  n2, t0,  t3,  t4,  t5,  hlt',  hlt,  h100',  hld3,  e4,  t5',  Value.cells,  List.size_toArray,  hc1,  min_int,  hmin,  hsl,  t6,  hwi,  KInv_normal,  Int.reduceEq,  RetAt_mkg,  RetAt_lastg,  implies_true, rs_tmp (show Try.f5.results = #[.tmp 2] from rfl)]
        refine Eq.mpr (W_retold (ps := [(3, 6)]) (by kernel_rfl) (by kernel_rfl) (by simp)) ?_
        simp (maxSteps := 2000000) only [B0, B1, B2, B3, B4, B5, B6, B7, Gd, extV, Nat.reduceLT, Nat.reduceEqDiff, Nat.reduceBEq, Nat.reduceAdd, Nat.reduceSub, Nat.reduceMul, ↓reduceIte, reduceCtorEq, if_true, if_false, ite_true, ite_false, Int.reduceLT, Int.reduceLE, ptr, callV_func Try.enters_27, Try.len_22, Try.ia_22, Try.ld_47, allocV_zero Try.zero_47, Try.st_47, Try.fa_47_1, Try.ld_9, Try.len_9, Try.st_9, Try.fa_47_0, Try.ld_3, Try.fa_47_2, Try.ld_2, callV_func Try.enters_28, callV_func Try.enters_29, callV_func Try.enters_30, callV_func Try.enters_31, callV_func Try.enters_24, callV_func Try.enters_33, callV_func Try.enters_32, callV_func Try.enters_26, callV_func Try.enters_22, callV_func Try.enters_34, callV_func Try.enters_23, allocV_zero Try.zero_32, Try.st_32, callV_func Try.enters_20, Try.fa_45_0, Try.ld_43, Try.len_43, callV_func Try.enters_19, Try.ld_32, Try.ia_43, Try.ld_55, callV_func Try.enters_25, x61, t0,  t3,  t4,  t5,  hlt',  hlt,  h100',  hld3,  e4,  t5',  Value.cells,  List.size_toArray,  hc1,  min_int,  hmin,  hsl,  t6,  hwi,  KInv_normal,  Int.reduceEq,  RetAt_mkg,  RetAt_lastg,  implies_true, rs_tmp (show Try.f5.results = #[.tmp 2] from rfl)]
        refine drop_run f.toFree3 w6.h (key ky) (by omega) (by omega) fun σ7 h7 hS7 => ?_
        have x7 := x6.same hS7 hfr.1
        have x71 := x7.ld (o := 1) rfl
        simp (maxSteps := 2000000) only [B0, B1, B2, B3, B4, B5, B6, B7, Gd, extV, Nat.reduceLT, Nat.reduceEqDiff, Nat.reduceBEq, Nat.reduceAdd, Nat.reduceSub, Nat.reduceMul, ↓reduceIte, reduceCtorEq, if_true, if_false, ite_true, ite_false, Int.reduceLT, Int.reduceLE, ptr, callV_func Try.enters_27, Try.len_22, Try.ia_22, Try.ld_47, allocV_zero Try.zero_47, Try.st_47, Try.fa_47_1, Try.ld_9, Try.len_9, Try.st_9, Try.fa_47_0, Try.ld_3, Try.fa_47_2, Try.ld_2, callV_func Try.enters_28, callV_func Try.enters_29, callV_func Try.enters_30, callV_func Try.enters_31, callV_func Try.enters_24, callV_func Try.enters_33, callV_func Try.enters_32, callV_func Try.enters_26, callV_func Try.enters_22, callV_func Try.enters_34, callV_func Try.enters_23, allocV_zero Try.zero_32, Try.st_32, callV_func Try.enters_20, Try.fa_45_0, Try.ld_43, Try.len_43, callV_func Try.enters_19, Try.ld_32, Try.ia_43, Try.ld_55, callV_func Try.enters_25, x71, t0,  t3,  t4,  t5,  hlt',  hlt,  h100',  hld3,  e4,  t5',  Value.cells,  List.size_toArray,  hc1,  min_int,  hmin,  hsl,  t6,  hwi,  KInv_normal,  Int.reduceEq,  RetAt_mkg,  RetAt_lastg,  implies_true, rs_tmp (show Try.f5.results = #[.tmp 2] from rfl)]
        refine rdrop_run f (w6.r.same hS7 w6.qF w6.vF) hkd (key ky) (by omega) (by omega) fun σ8 v8 h8 hv8 hS8 => ?_
        have w8 := w6.call h7 (fun b hb => .inl hb) hS7 h8 (fun b hb => by rcases hv8 b hb with z | z; exact .inl z; exact .inr z) hS8
        have x8 := x7.same hS8 (by simp; exact hfr.2.1)
        have hl9' : (remA (key ky) L).length ≤ i + 1 := by have := rem_len (k := key ky) hkd; omega
        generalize remA (key ky) L = L9 at *
        simp (maxSteps := 2000000) only [B0, B1, B2, B3, B4, B5, B6, B7, Gd, extV, Nat.reduceLT, Nat.reduceEqDiff, Nat.reduceBEq, Nat.reduceAdd, Nat.reduceSub, Nat.reduceMul, ↓reduceIte, reduceCtorEq, if_true, if_false, ite_true, ite_false, Int.reduceLT, Int.reduceLE, ptr, callV_func Try.enters_27, Try.len_22, Try.ia_22, Try.ld_47, allocV_zero Try.zero_47, Try.st_47, Try.fa_47_1, Try.ld_9, Try.len_9, Try.st_9, Try.fa_47_0, Try.ld_3, Try.fa_47_2, Try.ld_2, callV_func Try.enters_28, callV_func Try.enters_29, callV_func Try.enters_30, callV_func Try.enters_31, callV_func Try.enters_24, callV_func Try.enters_33, callV_func Try.enters_32, callV_func Try.enters_26, callV_func Try.enters_22, callV_func Try.enters_34, callV_func Try.enters_23, allocV_zero Try.zero_32, Try.st_32, callV_func Try.enters_20, Try.fa_45_0, Try.ld_43, Try.len_43, callV_func Try.enters_19, Try.ld_32, Try.ia_43, Try.ld_55, callV_func Try.enters_25, x61,  x71, t0,  t3,  t4,  t5,  hlt',  hlt,  h100',  hld3,  e4,  t5',  Value.cells,  List.size_toArray,  hc1,  min_int,  hmin,  hsl,  t6,  hwi,  KInv_normal,  Int.reduceEq,  RetAt_mkg,  RetAt_lastg,  implies_true, rs_tmp (show Try.f5.results = #[.tmp 2] from rfl)]
        have x51 := x8.ld (o := 1) rfl
        simp (maxSteps := 2000000) only [B0, B1, B2, B3, B4, B5, B6, B7, Gd, extV, Nat.reduceLT, Nat.reduceEqDiff, Nat.reduceBEq, Nat.reduceAdd, Nat.reduceSub, Nat.reduceMul, ↓reduceIte, reduceCtorEq, if_true, if_false, ite_true, ite_false, Int.reduceLT, Int.reduceLE, ptr, callV_func Try.enters_27, Try.len_22, Try.ia_22, Try.ld_47, allocV_zero Try.zero_47, Try.st_47, Try.fa_47_1, Try.ld_9, Try.len_9, Try.st_9, Try.fa_47_0, Try.ld_3, Try.fa_47_2, Try.ld_2, callV_func Try.enters_28, callV_func Try.enters_29, callV_func Try.enters_30, callV_func Try.enters_31, callV_func Try.enters_24, callV_func Try.enters_33, callV_func Try.enters_32, callV_func Try.enters_26, callV_func Try.enters_22, callV_func Try.enters_34, callV_func Try.enters_23, allocV_zero Try.zero_32, Try.st_32, callV_func Try.enters_20, Try.fa_45_0, Try.ld_43, Try.len_43, callV_func Try.enters_19, Try.ld_32, Try.ia_43, Try.ld_55, callV_func Try.enters_25, x51,  at_run f.toFree3 w8.h, t0,  t3,  t4,  t5,  hlt',  hlt,  h100',  hld3,  e4,  t5',  Value.cells,  List.size_toArray,  hc1,  min_int,  hmin,  hsl,  t6,  hwi,  KInv_normal,  Int.reduceEq,  RetAt_mkg,  RetAt_lastg,  implies_true, rs_tmp (show Try.f5.results = #[.tmp 2] from rfl)]
        refine rat_run f w8.r w8.h.kd _ (by omega) (by omega) ?_
        simp (maxSteps := 2000000) only [B0, B1, B2, B3, B4, B5, B6, B7, Gd, extV, Nat.reduceLT, Nat.reduceEqDiff, Nat.reduceBEq, Nat.reduceAdd, Nat.reduceSub, Nat.reduceMul, ↓reduceIte, reduceCtorEq, if_true, if_false, ite_true, ite_false, Int.reduceLT, Int.reduceLE, ptr, callV_func Try.enters_27, Try.len_22, Try.ia_22, Try.ld_47, allocV_zero Try.zero_47, Try.st_47, Try.fa_47_1, Try.ld_9, Try.len_9, Try.st_9, Try.fa_47_0, Try.ld_3, Try.fa_47_2, Try.ld_2, callV_func Try.enters_28, callV_func Try.enters_29, callV_func Try.enters_30, callV_func Try.enters_31, callV_func Try.enters_24, callV_func Try.enters_33, callV_func Try.enters_32, callV_func Try.enters_26, callV_func Try.enters_22, callV_func Try.enters_34, callV_func Try.enters_23, allocV_zero Try.zero_32, Try.st_32, callV_func Try.enters_20, Try.fa_45_0, Try.ld_43, Try.len_43, callV_func Try.enters_19, Try.ld_32, Try.ia_43, Try.ld_55, callV_func Try.enters_25, t0,  t3,  t4,  t5,  hlt',  hlt,  h100',  hld3,  e4,  t5',  Value.cells,  List.size_toArray,  hc1,  min_int,  hmin,  hsl,  t6,  hwi,  KInv_normal,  Int.reduceEq,  RetAt_mkg,  RetAt_lastg,  implies_true, rs_tmp (show Try.f5.results = #[.tmp 2] from rfl)]
        refine next_run f.toFree3 w8.h fun σ18 c8 hS18 hc0 hc1 => ?_
        obtain ⟨σ19, σ20, e19, t20, hS20, v20, hn20, _⟩ := AE.newVar σ18 32 [.string ⟨#[]⟩, .int .i64 0] (encA (L9.headD (⟨#[]⟩, 0))) rfl (encA_single _)
        have w20 := (w8.step hS18).step hS20
        simp only [encA] at t20
        simp (maxSteps := 2000000) only [B0, B1, B2, B3, B4, B5, B6, B7, Gd, extV, Nat.reduceLT, Nat.reduceEqDiff, Nat.reduceBEq, Nat.reduceAdd, Nat.reduceSub, Nat.reduceMul, ↓reduceIte, reduceCtorEq, if_true, if_false, ite_true, ite_false, Int.reduceLT, Int.reduceLE, ptr, callV_func Try.enters_27, Try.len_22, Try.ia_22, Try.ld_47, allocV_zero Try.zero_47, Try.st_47, Try.fa_47_1, Try.ld_9, Try.len_9, Try.st_9, Try.fa_47_0, Try.ld_3, Try.fa_47_2, Try.ld_2, callV_func Try.enters_28, callV_func Try.enters_29, callV_func Try.enters_30, callV_func Try.enters_31, callV_func Try.enters_24, callV_func Try.enters_33, callV_func Try.enters_32, callV_func Try.enters_26, callV_func Try.enters_22, callV_func Try.enters_34, callV_func Try.enters_23, allocV_zero Try.zero_32, Try.st_32, callV_func Try.enters_20, Try.fa_45_0, Try.ld_43, Try.len_43, callV_func Try.enters_19, Try.ld_32, Try.ia_43, Try.ld_55, callV_func Try.enters_25, alV,  e19,  t20,  Value.cells,  List.size_toArray, t0,  t3,  t4,  t5,  hlt',  hlt,  h100',  hld3,  e4,  t5',  Value.cells,  List.size_toArray,  hc1,  min_int,  hmin,  hsl,  t6,  hwi,  KInv_normal,  Int.reduceEq,  RetAt_mkg,  RetAt_lastg,  implies_true, rs_tmp (show Try.f5.results = #[.tmp 2] from rfl)]
        refine Eq.mpr (W_retold (ps := [(10, 14), (10, 15), (20, 24)]) (by kernel_rfl) (by kernel_rfl) (by simp)) ?_
        obtain ⟨a20, k20, ev20, hk20⟩ := w20.r.sl.len
        have ld20 := w20.r.ld0
        rw [ev20] at ld20
        simp (maxSteps := 2000000) only [B0, B1, B2, B3, B4, B5, B6, B7, Gd, extV, Nat.reduceLT, Nat.reduceEqDiff, Nat.reduceBEq, Nat.reduceAdd, Nat.reduceSub, Nat.reduceMul, ↓reduceIte, reduceCtorEq, if_true, if_false, ite_true, ite_false, Int.reduceLT, Int.reduceLE, ptr, callV_func Try.enters_27, Try.len_22, Try.ia_22, Try.ld_47, allocV_zero Try.zero_47, Try.st_47, Try.fa_47_1, Try.ld_9, Try.len_9, Try.st_9, Try.fa_47_0, Try.ld_3, Try.fa_47_2, Try.ld_2, callV_func Try.enters_28, callV_func Try.enters_29, callV_func Try.enters_30, callV_func Try.enters_31, callV_func Try.enters_24, callV_func Try.enters_33, callV_func Try.enters_32, callV_func Try.enters_26, callV_func Try.enters_22, callV_func Try.enters_34, callV_func Try.enters_23, allocV_zero Try.zero_32, Try.st_32, callV_func Try.enters_20, Try.fa_45_0, Try.ld_43, Try.len_43, callV_func Try.enters_19, Try.ld_32, Try.ia_43, Try.ld_55, callV_func Try.enters_25, len_h f.toFree w20.h,  ld20,  bin_bneq Try.underlying4, t0,  t3,  t4,  t5,  hlt',  hlt,  h100',  hld3,  e4,  t5',  Value.cells,  List.size_toArray,  hc1,  min_int,  hmin,  hsl,  t6,  hwi,  KInv_normal,  Int.reduceEq,  RetAt_mkg,  RetAt_lastg,  implies_true, rs_tmp (show Try.f5.results = #[.tmp 2] from rfl)]
        refine all_run f.toFree4 w20.h (by omega) fun σ21 v21 hv21 hb21 hS21 => ?_
        have w21 := w20.step hS21
        have ld21 := w21.r.ld0
        rw [ev20] at ld21
        simp (maxSteps := 2000000) only [B0, B1, B2, B3, B4, B5, B6, B7, Gd, extV, Nat.reduceLT, Nat.reduceEqDiff, Nat.reduceBEq, Nat.reduceAdd, Nat.reduceSub, Nat.reduceMul, ↓reduceIte, reduceCtorEq, if_true, if_false, ite_true, ite_false, Int.reduceLT, Int.reduceLE, ptr, callV_func Try.enters_27, Try.len_22, Try.ia_22, Try.ld_47, allocV_zero Try.zero_47, Try.st_47, Try.fa_47_1, Try.ld_9, Try.len_9, Try.st_9, Try.fa_47_0, Try.ld_3, Try.fa_47_2, Try.ld_2, callV_func Try.enters_28, callV_func Try.enters_29, callV_func Try.enters_30, callV_func Try.enters_31, callV_func Try.enters_24, callV_func Try.enters_33, callV_func Try.enters_32, callV_func Try.enters_26, callV_func Try.enters_22, callV_func Try.enters_34, callV_func Try.enters_23, allocV_zero Try.zero_32, Try.st_32, callV_func Try.enters_20, Try.fa_45_0, Try.ld_43, Try.len_43, callV_func Try.enters_19, Try.ld_32, Try.ia_43, Try.ld_55, callV_func Try.enters_25, ld21, t0,  t3,  t4,  t5,  hlt',  hlt,  h100',  hld3,  e4,  t5',  Value.cells,  List.size_toArray,  hc1,  min_int,  hmin,  hsl,  t6,  hwi,  KInv_normal,  Int.reduceEq,  RetAt_mkg,  RetAt_lastg,  implies_true, rs_tmp (show Try.f5.results = #[.tmp 2] from rfl)]
        refine same_run f.h32 hv21 (by have := w21.r.sl; rw [ev20] at this; exact this) (by omega) (by omega) ?_
        have l21 : ldCells σ21 σ18.next 0 2 = some [.string (L9.headD (⟨#[]⟩, 0)).1, .int .i64 (L9.headD (⟨#[]⟩, 0)).2] := (v20.same hS21 nofun).ldCells
        have sl21 := w21.r.sl
        rw [ev20] at sl21
        cases L9 with
        | nil =>
          have := hc0 rfl
          subst this
          have bz : ∀ {u z}, bin Try.prog .neq 32 u z (.agg #[.string ⟨#[]⟩, .int .i64 0]) (.agg #[.string ⟨#[]⟩, .int .i64 0]) = some (.bool false) := by
            intro u z; have := bin_al_ne (x := u) (y := z) (a := (⟨#[]⟩, 0)) (b := (⟨#[]⟩, 0)); simpa [alV] using this
          simp only [List.headD_nil] at l21
          simp (maxSteps := 2000000) only [B0, B1, B2, B3, B4, B5, B6, B7, Gd, extV, Nat.reduceLT, Nat.reduceEqDiff, Nat.reduceBEq, Nat.reduceAdd, Nat.reduceSub, Nat.reduceMul, ↓reduceIte, reduceCtorEq, if_true, if_false, ite_true, ite_false, Int.reduceLT, Int.reduceLE, ptr, callV_func Try.enters_27, Try.len_22, Try.ia_22, Try.ld_47, allocV_zero Try.zero_47, Try.st_47, Try.fa_47_1, Try.ld_9, Try.len_9, Try.st_9, Try.fa_47_0, Try.ld_3, Try.fa_47_2, Try.ld_2, callV_func Try.enters_28, callV_func Try.enters_29, callV_func Try.enters_30, callV_func Try.enters_31, callV_func Try.enters_24, callV_func Try.enters_33, callV_func Try.enters_32, callV_func Try.enters_26, callV_func Try.enters_22, callV_func Try.enters_34, callV_func Try.enters_23, allocV_zero Try.zero_32, Try.st_32, callV_func Try.enters_20, Try.fa_45_0, Try.ld_43, Try.len_43, callV_func Try.enters_19, Try.ld_32, Try.ia_43, Try.ld_55, callV_func Try.enters_25, ld20,  ld21,  len_h f.toFree w20.h,  bin_bneq Try.underlying4,  List.length_nil,  l21,  b32z,  bz, t0,  t3,  t4,  t5,  hlt',  hlt,  h100',  hld3,  e4,  t5',  Value.cells,  List.size_toArray,  hc1,  min_int,  hmin,  hsl,  t6,  hwi,  KInv_normal,  Int.reduceEq,  RetAt_mkg,  RetAt_lastg,  implies_true, rs_tmp (show Try.f5.results = #[.tmp 2] from rfl)]
          exact ⟨99 - i, by omega, _, i + 1, _, _, _, [], rfl, by simp [get_put, t0], by simp [get_put, t3], by simp [get_put, t4], by simp [get_put], by omega, by simp, w21⟩
        | cons y l =>
          have := hc1 _ _ rfl
          subst this
          have hposn : 0 < (y :: l).length := by simp
          have hpos : (0 : Int) < ((y :: l).length : Int) := by omega
          obtain ⟨b9, o9, cap9, g9, e, hcap9, hbl9, hr9⟩ := sl21.at_ (i := 0) rfl
          injection e with e _ e3
          subst e e3
          have l9 := hr9.ldCells encOk (i := 0) rfl
          simp only [encA, Nat.zero_mul, Nat.add_zero] at l9
          simp only [List.headD_cons] at l21
          generalize hlen : (y :: l).length = len9 at *
          simp (maxSteps := 2000000) only [B0, B1, B2, B3, B4, B5, B6, B7, Gd, extV, Nat.reduceLT, Nat.reduceEqDiff, Nat.reduceBEq, Nat.reduceAdd, Nat.reduceSub, Nat.reduceMul, ↓reduceIte, reduceCtorEq, if_true, if_false, ite_true, ite_false, Int.reduceLT, Int.reduceLE, ptr, callV_func Try.enters_27, Try.len_22, Try.ia_22, Try.ld_47, allocV_zero Try.zero_47, Try.st_47, Try.fa_47_1, Try.ld_9, Try.len_9, Try.st_9, Try.fa_47_0, Try.ld_3, Try.fa_47_2, Try.ld_2, callV_func Try.enters_28, callV_func Try.enters_29, callV_func Try.enters_30, callV_func Try.enters_31, callV_func Try.enters_24, callV_func Try.enters_33, callV_func Try.enters_32, callV_func Try.enters_26, callV_func Try.enters_22, callV_func Try.enters_34, callV_func Try.enters_23, allocV_zero Try.zero_32, Try.st_32, callV_func Try.enters_20, Try.fa_45_0, Try.ld_43, Try.len_43, callV_func Try.enters_19, Try.ld_32, Try.ia_43, Try.ld_55, callV_func Try.enters_25, ld20,  ld21,  len_h f.toFree w20.h,  bin_bneq Try.underlying4,  hpos,  hposn,  l21,  l9,  bin_al55,  hlen,  Nat.zero_mul, t0,  t3,  t4,  t5,  hlt',  hlt,  h100',  hld3,  e4,  t5',  Value.cells,  List.size_toArray,  hc1,  min_int,  hmin,  hsl,  t6,  hwi,  KInv_normal,  Int.reduceEq,  RetAt_mkg,  RetAt_lastg,  implies_true, rs_tmp (show Try.f5.results = #[.tmp 2] from rfl)]
          exact ⟨99 - i, by omega, _, i + 1, _, _, _, y :: l, rfl, by simp [get_put, t0], by simp [get_put, t3], by simp [get_put, t4], by simp [get_put], by omega, by omega, w21⟩
      · have n3' : (w = 3) = False := eq_false c3
        by_cases c4 : w = 4
        · subst c4
          simp (maxSteps := 2000000) only [B0, B1, B2, B3, B4, B5, B6, B7, Gd, extV, Nat.reduceLT, Nat.reduceEqDiff, Nat.reduceBEq, Nat.reduceAdd, Nat.reduceSub, Nat.reduceMul, ↓reduceIte, reduceCtorEq, if_true, if_false, ite_true, ite_false, Int.reduceLT, Int.reduceLE, ptr, callV_func Try.enters_27, Try.len_22, Try.ia_22, Try.ld_47, allocV_zero Try.zero_47, Try.st_47, Try.fa_47_1, Try.ld_9, Try.len_9, Try.st_9, Try.fa_47_0, Try.ld_3, Try.fa_47_2, Try.ld_2, callV_func Try.enters_28, callV_func Try.enters_29, callV_func Try.enters_30, callV_func Try.enters_31, callV_func Try.enters_24, callV_func Try.enters_33, callV_func Try.enters_32, callV_func Try.enters_26, callV_func Try.enters_22, callV_func Try.enters_34, callV_func Try.enters_23, allocV_zero Try.zero_32, Try.st_32, callV_func Try.enters_20, Try.fa_45_0, Try.ld_43, Try.len_43, callV_func Try.enters_19, Try.ld_32, Try.ia_43, Try.ld_55, callV_func Try.enters_25, x60,  n0,  n1,  n2, t0,  t3,  t4,  t5,  hlt',  hlt,  h100',  hld3,  e4,  t5',  Value.cells,  List.size_toArray,  hc1,  min_int,  hmin,  hsl,  t6,  hwi,  KInv_normal,  Int.reduceEq,  RetAt_mkg,  RetAt_lastg,  implies_true, rs_tmp (show Try.f5.results = #[.tmp 2] from rfl)]
          refine Eq.mpr (W_retold (ps := [(3, 6)]) (by kernel_rfl) (by kernel_rfl) (by simp)) ?_
          simp (maxSteps := 2000000) only [B0, B1, B2, B3, B4, B5, B6, B7, Gd, extV, Nat.reduceLT, Nat.reduceEqDiff, Nat.reduceBEq, Nat.reduceAdd, Nat.reduceSub, Nat.reduceMul, ↓reduceIte, reduceCtorEq, if_true, if_false, ite_true, ite_false, Int.reduceLT, Int.reduceLE, ptr, callV_func Try.enters_27, Try.len_22, Try.ia_22, Try.ld_47, allocV_zero Try.zero_47, Try.st_47, Try.fa_47_1, Try.ld_9, Try.len_9, Try.st_9, Try.fa_47_0, Try.ld_3, Try.fa_47_2, Try.ld_2, callV_func Try.enters_28, callV_func Try.enters_29, callV_func Try.enters_30, callV_func Try.enters_31, callV_func Try.enters_24, callV_func Try.enters_33, callV_func Try.enters_32, callV_func Try.enters_26, callV_func Try.enters_22, callV_func Try.enters_34, callV_func Try.enters_23, allocV_zero Try.zero_32, Try.st_32, callV_func Try.enters_20, Try.fa_45_0, Try.ld_43, Try.len_43, callV_func Try.enters_19, Try.ld_32, Try.ia_43, Try.ld_55, callV_func Try.enters_25, x62, t0,  t3,  t4,  t5,  hlt',  hlt,  h100',  hld3,  e4,  t5',  Value.cells,  List.size_toArray,  hc1,  min_int,  hmin,  hsl,  t6,  hwi,  KInv_normal,  Int.reduceEq,  RetAt_mkg,  RetAt_lastg,  implies_true, rs_tmp (show Try.f5.results = #[.tmp 2] from rfl)]
          refine due_run f.toFree3 w6.h tm (by omega) (by omega) fun σ7 vd h7 hvd hbd hS7 => ?_
          have x7 := x6.same hS7 hfr.1
          have x72 := x7.ld (o := 2) rfl
          have n7 := hS7.next
          simp (maxSteps := 2000000) only [B0, B1, B2, B3, B4, B5, B6, B7, Gd, extV, Nat.reduceLT, Nat.reduceEqDiff, Nat.reduceBEq, Nat.reduceAdd, Nat.reduceSub, Nat.reduceMul, ↓reduceIte, reduceCtorEq, if_true, if_false, ite_true, ite_false, Int.reduceLT, Int.reduceLE, ptr, callV_func Try.enters_27, Try.len_22, Try.ia_22, Try.ld_47, allocV_zero Try.zero_47, Try.st_47, Try.fa_47_1, Try.ld_9, Try.len_9, Try.st_9, Try.fa_47_0, Try.ld_3, Try.fa_47_2, Try.ld_2, callV_func Try.enters_28, callV_func Try.enters_29, callV_func Try.enters_30, callV_func Try.enters_31, callV_func Try.enters_24, callV_func Try.enters_33, callV_func Try.enters_32, callV_func Try.enters_26, callV_func Try.enters_22, callV_func Try.enters_34, callV_func Try.enters_23, allocV_zero Try.zero_32, Try.st_32, callV_func Try.enters_20, Try.fa_45_0, Try.ld_43, Try.len_43, callV_func Try.enters_19, Try.ld_32, Try.ia_43, Try.ld_55, callV_func Try.enters_25, x72, t0,  t3,  t4,  t5,  hlt',  hlt,  h100',  hld3,  e4,  t5',  Value.cells,  List.size_toArray,  hc1,  min_int,  hmin,  hsl,  t6,  hwi,  KInv_normal,  Int.reduceEq,  RetAt_mkg,  RetAt_lastg,  implies_true, rs_tmp (show Try.f5.results = #[.tmp 2] from rfl)]
          refine rdue_run f (w6.r.same hS7 w6.qF w6.vF) tm (by omega) (by omega) fun σ8 v1 v8 h8 hv1 hb1 hb8 hS8 => ?_
          have w8 := w6.call h7 (fun b hb => .inl hb) hS7 h8 (fun b hb => .inl (hb8 b hb)) hS8
          have x8 := x7.same hS8 (by simp; exact hfr.2.1)
          have hvd8 := hvd.same hS8 (fun b hb e => by have := hbd b hb; have := w6.r.obj.1; simp at e; omega)
          have hl9' : (left tm L).length ≤ i + 1 := by have := left_len tm L; omega
          have hdl : (due tm L).length ≤ 100 := by have := congrArg List.length (due_left tm L); simp at this; omega
          simp (maxSteps := 2000000) only [B0, B1, B2, B3, B4, B5, B6, B7, Gd, extV, Nat.reduceLT, Nat.reduceEqDiff, Nat.reduceBEq, Nat.reduceAdd, Nat.reduceSub, Nat.reduceMul, ↓reduceIte, reduceCtorEq, if_true, if_false, ite_true, ite_false, Int.reduceLT, Int.reduceLE, ptr, callV_func Try.enters_27, Try.len_22, Try.ia_22, Try.ld_47, allocV_zero Try.zero_47, Try.st_47, Try.fa_47_1, Try.ld_9, Try.len_9, Try.st_9, Try.fa_47_0, Try.ld_3, Try.fa_47_2, Try.ld_2, callV_func Try.enters_28, callV_func Try.enters_29, callV_func Try.enters_30, callV_func Try.enters_31, callV_func Try.enters_24, callV_func Try.enters_33, callV_func Try.enters_32, callV_func Try.enters_26, callV_func Try.enters_22, callV_func Try.enters_34, callV_func Try.enters_23, allocV_zero Try.zero_32, Try.st_32, callV_func Try.enters_20, Try.fa_45_0, Try.ld_43, Try.len_43, callV_func Try.enters_19, Try.ld_32, Try.ia_43, Try.ld_55, callV_func Try.enters_25, t0,  t3,  t4,  t5,  hlt',  hlt,  h100',  hld3,  e4,  t5',  Value.cells,  List.size_toArray,  hc1,  min_int,  hmin,  hsl,  t6,  hwi,  KInv_normal,  Int.reduceEq,  RetAt_mkg,  RetAt_lastg,  implies_true, rs_tmp (show Try.f5.results = #[.tmp 2] from rfl)]
          refine same_run f.h32 hvd8 hv1 (by omega) (by omega) ?_
          generalize left tm L = L9 at *
          simp (maxSteps := 2000000) only [B0, B1, B2, B3, B4, B5, B6, B7, Gd, extV, Nat.reduceLT, Nat.reduceEqDiff, Nat.reduceBEq, Nat.reduceAdd, Nat.reduceSub, Nat.reduceMul, ↓reduceIte, reduceCtorEq, if_true, if_false, ite_true, ite_false, Int.reduceLT, Int.reduceLE, ptr, callV_func Try.enters_27, Try.len_22, Try.ia_22, Try.ld_47, allocV_zero Try.zero_47, Try.st_47, Try.fa_47_1, Try.ld_9, Try.len_9, Try.st_9, Try.fa_47_0, Try.ld_3, Try.fa_47_2, Try.ld_2, callV_func Try.enters_28, callV_func Try.enters_29, callV_func Try.enters_30, callV_func Try.enters_31, callV_func Try.enters_24, callV_func Try.enters_33, callV_func Try.enters_32, callV_func Try.enters_26, callV_func Try.enters_22, callV_func Try.enters_34, callV_func Try.enters_23, allocV_zero Try.zero_32, Try.st_32, callV_func Try.enters_20, Try.fa_45_0, Try.ld_43, Try.len_43, callV_func Try.enters_19, Try.ld_32, Try.ia_43, Try.ld_55, callV_func Try.enters_25, x62,  x72, t0,  t3,  t4,  t5,  hlt',  hlt,  h100',  hld3,  e4,  t5',  Value.cells,  List.size_toArray,  hc1,  min_int,  hmin,  hsl,  t6,  hwi,  KInv_normal,  Int.reduceEq,  RetAt_mkg,  RetAt_lastg,  implies_true, rs_tmp (show Try.f5.results = #[.tmp 2] from rfl)]
          have x51 := x8.ld (o := 1) rfl
          simp (maxSteps := 2000000) only [B0, B1, B2, B3, B4, B5, B6, B7, Gd, extV, Nat.reduceLT, Nat.reduceEqDiff, Nat.reduceBEq, Nat.reduceAdd, Nat.reduceSub, Nat.reduceMul, ↓reduceIte, reduceCtorEq, if_true, if_false, ite_true, ite_false, Int.reduceLT, Int.reduceLE, ptr, callV_func Try.enters_27, Try.len_22, Try.ia_22, Try.ld_47, allocV_zero Try.zero_47, Try.st_47, Try.fa_47_1, Try.ld_9, Try.len_9, Try.st_9, Try.fa_47_0, Try.ld_3, Try.fa_47_2, Try.ld_2, callV_func Try.enters_28, callV_func Try.enters_29, callV_func Try.enters_30, callV_func Try.enters_31, callV_func Try.enters_24, callV_func Try.enters_33, callV_func Try.enters_32, callV_func Try.enters_26, callV_func Try.enters_22, callV_func Try.enters_34, callV_func Try.enters_23, allocV_zero Try.zero_32, Try.st_32, callV_func Try.enters_20, Try.fa_45_0, Try.ld_43, Try.len_43, callV_func Try.enters_19, Try.ld_32, Try.ia_43, Try.ld_55, callV_func Try.enters_25, x51,  at_run f.toFree3 w8.h, t0,  t3,  t4,  t5,  hlt',  hlt,  h100',  hld3,  e4,  t5',  Value.cells,  List.size_toArray,  hc1,  min_int,  hmin,  hsl,  t6,  hwi,  KInv_normal,  Int.reduceEq,  RetAt_mkg,  RetAt_lastg,  implies_true, rs_tmp (show Try.f5.results = #[.tmp 2] from rfl)]
          refine rat_run f w8.r w8.h.kd _ (by omega) (by omega) ?_
          simp (maxSteps := 2000000) only [B0, B1, B2, B3, B4, B5, B6, B7, Gd, extV, Nat.reduceLT, Nat.reduceEqDiff, Nat.reduceBEq, Nat.reduceAdd, Nat.reduceSub, Nat.reduceMul, ↓reduceIte, reduceCtorEq, if_true, if_false, ite_true, ite_false, Int.reduceLT, Int.reduceLE, ptr, callV_func Try.enters_27, Try.len_22, Try.ia_22, Try.ld_47, allocV_zero Try.zero_47, Try.st_47, Try.fa_47_1, Try.ld_9, Try.len_9, Try.st_9, Try.fa_47_0, Try.ld_3, Try.fa_47_2, Try.ld_2, callV_func Try.enters_28, callV_func Try.enters_29, callV_func Try.enters_30, callV_func Try.enters_31, callV_func Try.enters_24, callV_func Try.enters_33, callV_func Try.enters_32, callV_func Try.enters_26, callV_func Try.enters_22, callV_func Try.enters_34, callV_func Try.enters_23, allocV_zero Try.zero_32, Try.st_32, callV_func Try.enters_20, Try.fa_45_0, Try.ld_43, Try.len_43, callV_func Try.enters_19, Try.ld_32, Try.ia_43, Try.ld_55, callV_func Try.enters_25, t0,  t3,  t4,  t5,  hlt',  hlt,  h100',  hld3,  e4,  t5',  Value.cells,  List.size_toArray,  hc1,  min_int,  hmin,  hsl,  t6,  hwi,  KInv_normal,  Int.reduceEq,  RetAt_mkg,  RetAt_lastg,  implies_true, rs_tmp (show Try.f5.results = #[.tmp 2] from rfl)]
          refine next_run f.toFree3 w8.h fun σ18 c8 hS18 hc0 hc1 => ?_
          obtain ⟨σ19, σ20, e19, t20, hS20, v20, hn20, _⟩ := AE.newVar σ18 32 [.string ⟨#[]⟩, .int .i64 0] (encA (L9.headD (⟨#[]⟩, 0))) rfl (encA_single _)
          have w20 := (w8.step hS18).step hS20
          simp only [encA] at t20
          simp (maxSteps := 2000000) only [B0, B1, B2, B3, B4, B5, B6, B7, Gd, extV, Nat.reduceLT, Nat.reduceEqDiff, Nat.reduceBEq, Nat.reduceAdd, Nat.reduceSub, Nat.reduceMul, ↓reduceIte, reduceCtorEq, if_true, if_false, ite_true, ite_false, Int.reduceLT, Int.reduceLE, ptr, callV_func Try.enters_27, Try.len_22, Try.ia_22, Try.ld_47, allocV_zero Try.zero_47, Try.st_47, Try.fa_47_1, Try.ld_9, Try.len_9, Try.st_9, Try.fa_47_0, Try.ld_3, Try.fa_47_2, Try.ld_2, callV_func Try.enters_28, callV_func Try.enters_29, callV_func Try.enters_30, callV_func Try.enters_31, callV_func Try.enters_24, callV_func Try.enters_33, callV_func Try.enters_32, callV_func Try.enters_26, callV_func Try.enters_22, callV_func Try.enters_34, callV_func Try.enters_23, allocV_zero Try.zero_32, Try.st_32, callV_func Try.enters_20, Try.fa_45_0, Try.ld_43, Try.len_43, callV_func Try.enters_19, Try.ld_32, Try.ia_43, Try.ld_55, callV_func Try.enters_25, alV,  e19,  t20,  Value.cells,  List.size_toArray, t0,  t3,  t4,  t5,  hlt',  hlt,  h100',  hld3,  e4,  t5',  Value.cells,  List.size_toArray,  hc1,  min_int,  hmin,  hsl,  t6,  hwi,  KInv_normal,  Int.reduceEq,  RetAt_mkg,  RetAt_lastg,  implies_true, rs_tmp (show Try.f5.results = #[.tmp 2] from rfl)]
          refine Eq.mpr (W_retold (ps := [(10, 14), (10, 15), (20, 24)]) (by kernel_rfl) (by kernel_rfl) (by simp)) ?_
          obtain ⟨a20, k20, ev20, hk20⟩ := w20.r.sl.len
          have ld20 := w20.r.ld0
          rw [ev20] at ld20
          simp (maxSteps := 2000000) only [B0, B1, B2, B3, B4, B5, B6, B7, Gd, extV, Nat.reduceLT, Nat.reduceEqDiff, Nat.reduceBEq, Nat.reduceAdd, Nat.reduceSub, Nat.reduceMul, ↓reduceIte, reduceCtorEq, if_true, if_false, ite_true, ite_false, Int.reduceLT, Int.reduceLE, ptr, callV_func Try.enters_27, Try.len_22, Try.ia_22, Try.ld_47, allocV_zero Try.zero_47, Try.st_47, Try.fa_47_1, Try.ld_9, Try.len_9, Try.st_9, Try.fa_47_0, Try.ld_3, Try.fa_47_2, Try.ld_2, callV_func Try.enters_28, callV_func Try.enters_29, callV_func Try.enters_30, callV_func Try.enters_31, callV_func Try.enters_24, callV_func Try.enters_33, callV_func Try.enters_32, callV_func Try.enters_26, callV_func Try.enters_22, callV_func Try.enters_34, callV_func Try.enters_23, allocV_zero Try.zero_32, Try.st_32, callV_func Try.enters_20, Try.fa_45_0, Try.ld_43, Try.len_43, callV_func Try.enters_19, Try.ld_32, Try.ia_43, Try.ld_55, callV_func Try.enters_25, len_h f.toFree w20.h,  ld20,  bin_bneq Try.underlying4, t0,  t3,  t4,  t5,  hlt',  hlt,  h100',  hld3,  e4,  t5',  Value.cells,  List.size_toArray,  hc1,  min_int,  hmin,  hsl,  t6,  hwi,  KInv_normal,  Int.reduceEq,  RetAt_mkg,  RetAt_lastg,  implies_true, rs_tmp (show Try.f5.results = #[.tmp 2] from rfl)]
          refine all_run f.toFree4 w20.h (by omega) fun σ21 v21 hv21 hb21 hS21 => ?_
          have w21 := w20.step hS21
          have ld21 := w21.r.ld0
          rw [ev20] at ld21
          simp (maxSteps := 2000000) only [B0, B1, B2, B3, B4, B5, B6, B7, Gd, extV, Nat.reduceLT, Nat.reduceEqDiff, Nat.reduceBEq, Nat.reduceAdd, Nat.reduceSub, Nat.reduceMul, ↓reduceIte, reduceCtorEq, if_true, if_false, ite_true, ite_false, Int.reduceLT, Int.reduceLE, ptr, callV_func Try.enters_27, Try.len_22, Try.ia_22, Try.ld_47, allocV_zero Try.zero_47, Try.st_47, Try.fa_47_1, Try.ld_9, Try.len_9, Try.st_9, Try.fa_47_0, Try.ld_3, Try.fa_47_2, Try.ld_2, callV_func Try.enters_28, callV_func Try.enters_29, callV_func Try.enters_30, callV_func Try.enters_31, callV_func Try.enters_24, callV_func Try.enters_33, callV_func Try.enters_32, callV_func Try.enters_26, callV_func Try.enters_22, callV_func Try.enters_34, callV_func Try.enters_23, allocV_zero Try.zero_32, Try.st_32, callV_func Try.enters_20, Try.fa_45_0, Try.ld_43, Try.len_43, callV_func Try.enters_19, Try.ld_32, Try.ia_43, Try.ld_55, callV_func Try.enters_25, ld21, t0,  t3,  t4,  t5,  hlt',  hlt,  h100',  hld3,  e4,  t5',  Value.cells,  List.size_toArray,  hc1,  min_int,  hmin,  hsl,  t6,  hwi,  KInv_normal,  Int.reduceEq,  RetAt_mkg,  RetAt_lastg,  implies_true, rs_tmp (show Try.f5.results = #[.tmp 2] from rfl)]
          refine same_run f.h32 hv21 (by have := w21.r.sl; rw [ev20] at this; exact this) (by omega) (by omega) ?_
          have l21 : ldCells σ21 σ18.next 0 2 = some [.string (L9.headD (⟨#[]⟩, 0)).1, .int .i64 (L9.headD (⟨#[]⟩, 0)).2] := (v20.same hS21 nofun).ldCells
          have sl21 := w21.r.sl
          rw [ev20] at sl21
          cases L9 with
          | nil =>
            have := hc0 rfl
            subst this
            have bz : ∀ {u z}, bin Try.prog .neq 32 u z (.agg #[.string ⟨#[]⟩, .int .i64 0]) (.agg #[.string ⟨#[]⟩, .int .i64 0]) = some (.bool false) := by
              intro u z; have := bin_al_ne (x := u) (y := z) (a := (⟨#[]⟩, 0)) (b := (⟨#[]⟩, 0)); simpa [alV] using this
            simp only [List.headD_nil] at l21
            simp (maxSteps := 2000000) only [B0, B1, B2, B3, B4, B5, B6, B7, Gd, extV, Nat.reduceLT, Nat.reduceEqDiff, Nat.reduceBEq, Nat.reduceAdd, Nat.reduceSub, Nat.reduceMul, ↓reduceIte, reduceCtorEq, if_true, if_false, ite_true, ite_false, Int.reduceLT, Int.reduceLE, ptr, callV_func Try.enters_27, Try.len_22, Try.ia_22, Try.ld_47, allocV_zero Try.zero_47, Try.st_47, Try.fa_47_1, Try.ld_9, Try.len_9, Try.st_9, Try.fa_47_0, Try.ld_3, Try.fa_47_2, Try.ld_2, callV_func Try.enters_28, callV_func Try.enters_29, callV_func Try.enters_30, callV_func Try.enters_31, callV_func Try.enters_24, callV_func Try.enters_33, callV_func Try.enters_32, callV_func Try.enters_26, callV_func Try.enters_22, callV_func Try.enters_34, callV_func Try.enters_23, allocV_zero Try.zero_32, Try.st_32, callV_func Try.enters_20, Try.fa_45_0, Try.ld_43, Try.len_43, callV_func Try.enters_19, Try.ld_32, Try.ia_43, Try.ld_55, callV_func Try.enters_25, ld20,  ld21,  len_h f.toFree w20.h,  bin_bneq Try.underlying4,  List.length_nil,  l21,  b32z,  bz, t0,  t3,  t4,  t5,  hlt',  hlt,  h100',  hld3,  e4,  t5',  Value.cells,  List.size_toArray,  hc1,  min_int,  hmin,  hsl,  t6,  hwi,  KInv_normal,  Int.reduceEq,  RetAt_mkg,  RetAt_lastg,  implies_true, rs_tmp (show Try.f5.results = #[.tmp 2] from rfl)]
            exact ⟨99 - i, by omega, _, i + 1, _, _, _, [], rfl, by simp [get_put, t0], by simp [get_put, t3], by simp [get_put, t4], by simp [get_put], by omega, by simp, w21⟩
          | cons y l =>
            have := hc1 _ _ rfl
            subst this
            have hposn : 0 < (y :: l).length := by simp
            have hpos : (0 : Int) < ((y :: l).length : Int) := by omega
            obtain ⟨b9, o9, cap9, g9, e, hcap9, hbl9, hr9⟩ := sl21.at_ (i := 0) rfl
            injection e with e _ e3
            subst e e3
            have l9 := hr9.ldCells encOk (i := 0) rfl
            simp only [encA, Nat.zero_mul, Nat.add_zero] at l9
            simp only [List.headD_cons] at l21
            generalize hlen : (y :: l).length = len9 at *
            simp (maxSteps := 2000000) only [B0, B1, B2, B3, B4, B5, B6, B7, Gd, extV, Nat.reduceLT, Nat.reduceEqDiff, Nat.reduceBEq, Nat.reduceAdd, Nat.reduceSub, Nat.reduceMul, ↓reduceIte, reduceCtorEq, if_true, if_false, ite_true, ite_false, Int.reduceLT, Int.reduceLE, ptr, callV_func Try.enters_27, Try.len_22, Try.ia_22, Try.ld_47, allocV_zero Try.zero_47, Try.st_47, Try.fa_47_1, Try.ld_9, Try.len_9, Try.st_9, Try.fa_47_0, Try.ld_3, Try.fa_47_2, Try.ld_2, callV_func Try.enters_28, callV_func Try.enters_29, callV_func Try.enters_30, callV_func Try.enters_31, callV_func Try.enters_24, callV_func Try.enters_33, callV_func Try.enters_32, callV_func Try.enters_26, callV_func Try.enters_22, callV_func Try.enters_34, callV_func Try.enters_23, allocV_zero Try.zero_32, Try.st_32, callV_func Try.enters_20, Try.fa_45_0, Try.ld_43, Try.len_43, callV_func Try.enters_19, Try.ld_32, Try.ia_43, Try.ld_55, callV_func Try.enters_25, ld20,  ld21,  len_h f.toFree w20.h,  bin_bneq Try.underlying4,  hpos,  hposn,  l21,  l9,  bin_al55,  hlen,  Nat.zero_mul, t0,  t3,  t4,  t5,  hlt',  hlt,  h100',  hld3,  e4,  t5',  Value.cells,  List.size_toArray,  hc1,  min_int,  hmin,  hsl,  t6,  hwi,  KInv_normal,  Int.reduceEq,  RetAt_mkg,  RetAt_lastg,  implies_true, rs_tmp (show Try.f5.results = #[.tmp 2] from rfl)]
            exact ⟨99 - i, by omega, _, i + 1, _, _, _, y :: l, rfl, by simp [get_put, t0], by simp [get_put, t3], by simp [get_put, t4], by simp [get_put], by omega, by omega, w21⟩
        · have n4 : (w = 4) = False := eq_false c4
          by_cases c5 : w = 5
          · subst c5
            simp (maxSteps := 2000000) only [B0, B1, B2, B3, B4, B5, B6, B7, Gd, extV, Nat.reduceLT, Nat.reduceEqDiff, Nat.reduceBEq, Nat.reduceAdd, Nat.reduceSub, Nat.reduceMul, ↓reduceIte, reduceCtorEq, if_true, if_false, ite_true, ite_false, Int.reduceLT, Int.reduceLE, ptr, callV_func Try.enters_27, Try.len_22, Try.ia_22, Try.ld_47, allocV_zero Try.zero_47, Try.st_47, Try.fa_47_1, Try.ld_9, Try.len_9, Try.st_9, Try.fa_47_0, Try.ld_3, Try.fa_47_2, Try.ld_2, callV_func Try.enters_28, callV_func Try.enters_29, callV_func Try.enters_30, callV_func Try.enters_31, callV_func Try.enters_24, callV_func Try.enters_33, callV_func Try.enters_32, callV_func Try.enters_26, callV_func Try.enters_22, callV_func Try.enters_34, callV_func Try.enters_23, allocV_zero Try.zero_32, Try.st_32, callV_func Try.enters_20, Try.fa_45_0, Try.ld_43, Try.len_43, callV_func Try.enters_19, Try.ld_32, Try.ia_43, Try.ld_55, callV_func Try.enters_25, x60,  n0,  n1,  n2,  n3',  n4, t0,  t3,  t4,  t5,  hlt',  hlt,  h100',  hld3,  e4,  t5',  Value.cells,  List.size_toArray,  hc1,  min_int,  hmin,  hsl,  t6,  hwi,  KInv_normal,  Int.reduceEq,  RetAt_mkg,  RetAt_lastg,  implies_true, rs_tmp (show Try.f5.results = #[.tmp 2] from rfl)]
            refine copy_run f.toFree4 w6.h (by omega) fun σ7 p7 F7 h7 hF7 hS7 => ?_
            have g7 := w6.h.same hS7 nofun
            have r7 := w6.r.same hS7 nofun nofun
            have x7 := x6.same hS7 nofun
            have n7 := hS7.next
            have f6 := w6.h.low
            have f7 := h7.low
            have q6 := w6.r.obj.1
            have v6l := w6.r.sl.lt
            have d7 : ∀ b ∈ F7, b ∉ F3 := fun b hb e => by have := hF7 b hb; have := f6 b e; omega
            simp (maxSteps := 2000000) only [B0, B1, B2, B3, B4, B5, B6, B7, Gd, extV, Nat.reduceLT, Nat.reduceEqDiff, Nat.reduceBEq, Nat.reduceAdd, Nat.reduceSub, Nat.reduceMul, ↓reduceIte, reduceCtorEq, if_true, if_false, ite_true, ite_false, Int.reduceLT, Int.reduceLE, ptr, callV_func Try.enters_27, Try.len_22, Try.ia_22, Try.ld_47, allocV_zero Try.zero_47, Try.st_47, Try.fa_47_1, Try.ld_9, Try.len_9, Try.st_9, Try.fa_47_0, Try.ld_3, Try.fa_47_2, Try.ld_2, callV_func Try.enters_28, callV_func Try.enters_29, callV_func Try.enters_30, callV_func Try.enters_31, callV_func Try.enters_24, callV_func Try.enters_33, callV_func Try.enters_32, callV_func Try.enters_26, callV_func Try.enters_22, callV_func Try.enters_34, callV_func Try.enters_23, allocV_zero Try.zero_32, Try.st_32, callV_func Try.enters_20, Try.fa_45_0, Try.ld_43, Try.len_43, callV_func Try.enters_19, Try.ld_32, Try.ia_43, Try.ld_55, callV_func Try.enters_25, t0,  t3,  t4,  t5,  hlt',  hlt,  h100',  hld3,  e4,  t5',  Value.cells,  List.size_toArray,  hc1,  min_int,  hmin,  hsl,  t6,  hwi,  KInv_normal,  Int.reduceEq,  RetAt_mkg,  RetAt_lastg,  implies_true, rs_tmp (show Try.f5.results = #[.tmp 2] from rfl)]
            refine set_run f.toFree3 g7 ⟨#[111, 116, 104, 101, 114]⟩ 0 (by omega) (by omega) fun σ8 F8 h8 hF8 hS8 => ?_
            have h7' := h7.same hS8 d7
            have r8 := r7.same hS8 w6.qF w6.vF
            have x8 := x7.same hS8 hfr.1
            have n8 := hS8.next
            have x81 := x8.ld (o := 1) rfl
            have d8 : ∀ b ∈ F8, b ∉ F7 ∧ b ≠ σ1.next ∧ b ∉ blks v3 ∧ b ≠ σ3.next ∧ σ.next ≤ b := fun b hb => by
              have s3 := w3.same.next
              have x6l := x6.1
              rcases hF8 b hb with z | z
              · exact ⟨fun e => d7 b e z, fun e => w6.qF (e ▸ z), fun e => w6.vF b e z, fun e => hfr.1 (e ▸ z), w6.low b z⟩
              · exact ⟨fun e => by have := f7 b e; omega, by omega, fun e => by have := v6l b e; omega, by omega, by omega⟩
            generalize hL8 : (if bad ⟨#[111, 116, 104, 101, 114]⟩ 0 then L else setA ⟨#[111, 116, 104, 101, 114]⟩ 0 L) = L8 at *
            have hl8 : L8.length ≤ L.length + 1 := by rw [← hL8]; split; omega; rw [set_len hkd]; split <;> omega
            simp (maxSteps := 2000000) only [B0, B1, B2, B3, B4, B5, B6, B7, Gd, extV, Nat.reduceLT, Nat.reduceEqDiff, Nat.reduceBEq, Nat.reduceAdd, Nat.reduceSub, Nat.reduceMul, ↓reduceIte, reduceCtorEq, if_true, if_false, ite_true, ite_false, Int.reduceLT, Int.reduceLE, ptr, callV_func Try.enters_27, Try.len_22, Try.ia_22, Try.ld_47, allocV_zero Try.zero_47, Try.st_47, Try.fa_47_1, Try.ld_9, Try.len_9, Try.st_9, Try.fa_47_0, Try.ld_3, Try.fa_47_2, Try.ld_2, callV_func Try.enters_28, callV_func Try.enters_29, callV_func Try.enters_30, callV_func Try.enters_31, callV_func Try.enters_24, callV_func Try.enters_33, callV_func Try.enters_32, callV_func Try.enters_26, callV_func Try.enters_22, callV_func Try.enters_34, callV_func Try.enters_23, allocV_zero Try.zero_32, Try.st_32, callV_func Try.enters_20, Try.fa_45_0, Try.ld_43, Try.len_43, callV_func Try.enters_19, Try.ld_32, Try.ia_43, Try.ld_55, callV_func Try.enters_25, x81, t0,  t3,  t4,  t5,  hlt',  hlt,  h100',  hld3,  e4,  t5',  Value.cells,  List.size_toArray,  hc1,  min_int,  hmin,  hsl,  t6,  hwi,  KInv_normal,  Int.reduceEq,  RetAt_mkg,  RetAt_lastg,  implies_true, rs_tmp (show Try.f5.results = #[.tmp 2] from rfl)]
            refine drop_run f.toFree3 h8 (key ky) (by omega) (by omega) fun σ9 h9 hS9 => ?_
            have x9 := x8.same hS9 (fun e => (d8 _ e).2.2.2.1 rfl)
            have x92 := x9.ld (o := 2) rfl
            have hl9 : (remA (key ky) L8).length ≤ L8.length := List.length_filter_le _ _
            simp (maxSteps := 2000000) only [B0, B1, B2, B3, B4, B5, B6, B7, Gd, extV, Nat.reduceLT, Nat.reduceEqDiff, Nat.reduceBEq, Nat.reduceAdd, Nat.reduceSub, Nat.reduceMul, ↓reduceIte, reduceCtorEq, if_true, if_false, ite_true, ite_false, Int.reduceLT, Int.reduceLE, ptr, callV_func Try.enters_27, Try.len_22, Try.ia_22, Try.ld_47, allocV_zero Try.zero_47, Try.st_47, Try.fa_47_1, Try.ld_9, Try.len_9, Try.st_9, Try.fa_47_0, Try.ld_3, Try.fa_47_2, Try.ld_2, callV_func Try.enters_28, callV_func Try.enters_29, callV_func Try.enters_30, callV_func Try.enters_31, callV_func Try.enters_24, callV_func Try.enters_33, callV_func Try.enters_32, callV_func Try.enters_26, callV_func Try.enters_22, callV_func Try.enters_34, callV_func Try.enters_23, allocV_zero Try.zero_32, Try.st_32, callV_func Try.enters_20, Try.fa_45_0, Try.ld_43, Try.len_43, callV_func Try.enters_19, Try.ld_32, Try.ia_43, Try.ld_55, callV_func Try.enters_25, x92, t0,  t3,  t4,  t5,  hlt',  hlt,  h100',  hld3,  e4,  t5',  Value.cells,  List.size_toArray,  hc1,  min_int,  hmin,  hsl,  t6,  hwi,  KInv_normal,  Int.reduceEq,  RetAt_mkg,  RetAt_lastg,  implies_true, rs_tmp (show Try.f5.results = #[.tmp 2] from rfl)]
            refine due_run f.toFree3 h9 tm (by omega) (by omega) fun σ10 vd h10 hvd hbd hS10 => ?_
            have x10 := x9.same hS10 (fun e => (d8 _ e).2.2.2.1 rfl)
            have h7'' := (h7'.same hS9 (fun b hb e => (d8 b e).1 hb)).same hS10 (fun b hb e => (d8 b e).1 hb)
            have r10 := (r8.same hS9 (fun e => (d8 _ e).2.1 rfl) (fun b hb e => (d8 b e).2.2.1 hb)).same hS10 (fun e => (d8 _ e).2.1 rfl) (fun b hb e => (d8 b e).2.2.1 hb)
            have w10 : Both σ σ10 p7 F7 σ1.next v3 L := ⟨h7'', r10, fun e => by have := hF7 _ e; omega, fun b hb e => by have := hF7 b e; have := v6l b hb; omega, fun b hb => by have := hF7 b hb; have := w6.same.next; omega, w6.ql, w6.vl, ((((w6.same.app hS7).app hS8).app hS9).app hS10).old fun b hb => by
              simp only [List.nil_append, List.append_nil, List.mem_append] at hb
              rcases hb with (z | z) | z
              · exact .inr (w6.low b z)
              · exact .inr (d8 b z).2.2.2.2
              · exact .inr (d8 b z).2.2.2.2⟩
            have hl9' : L.length ≤ i + 1 := by omega
            simp (maxSteps := 2000000) only [B0, B1, B2, B3, B4, B5, B6, B7, Gd, extV, Nat.reduceLT, Nat.reduceEqDiff, Nat.reduceBEq, Nat.reduceAdd, Nat.reduceSub, Nat.reduceMul, ↓reduceIte, reduceCtorEq, if_true, if_false, ite_true, ite_false, Int.reduceLT, Int.reduceLE, ptr, callV_func Try.enters_27, Try.len_22, Try.ia_22, Try.ld_47, allocV_zero Try.zero_47, Try.st_47, Try.fa_47_1, Try.ld_9, Try.len_9, Try.st_9, Try.fa_47_0, Try.ld_3, Try.fa_47_2, Try.ld_2, callV_func Try.enters_28, callV_func Try.enters_29, callV_func Try.enters_30, callV_func Try.enters_31, callV_func Try.enters_24, callV_func Try.enters_33, callV_func Try.enters_32, callV_func Try.enters_26, callV_func Try.enters_22, callV_func Try.enters_34, callV_func Try.enters_23, allocV_zero Try.zero_32, Try.st_32, callV_func Try.enters_20, Try.fa_45_0, Try.ld_43, Try.len_43, callV_func Try.enters_19, Try.ld_32, Try.ia_43, Try.ld_55, callV_func Try.enters_25, t0,  t3,  t4,  t5,  hlt',  hlt,  h100',  hld3,  e4,  t5',  Value.cells,  List.size_toArray,  hc1,  min_int,  hmin,  hsl,  t6,  hwi,  KInv_normal,  Int.reduceEq,  RetAt_mkg,  RetAt_lastg,  implies_true, rs_tmp (show Try.f5.results = #[.tmp 2] from rfl)]
            have x51 := x10.ld (o := 1) rfl
            simp (maxSteps := 2000000) only [B0, B1, B2, B3, B4, B5, B6, B7, Gd, extV, Nat.reduceLT, Nat.reduceEqDiff, Nat.reduceBEq, Nat.reduceAdd, Nat.reduceSub, Nat.reduceMul, ↓reduceIte, reduceCtorEq, if_true, if_false, ite_true, ite_false, Int.reduceLT, Int.reduceLE, ptr, callV_func Try.enters_27, Try.len_22, Try.ia_22, Try.ld_47, allocV_zero Try.zero_47, Try.st_47, Try.fa_47_1, Try.ld_9, Try.len_9, Try.st_9, Try.fa_47_0, Try.ld_3, Try.fa_47_2, Try.ld_2, callV_func Try.enters_28, callV_func Try.enters_29, callV_func Try.enters_30, callV_func Try.enters_31, callV_func Try.enters_24, callV_func Try.enters_33, callV_func Try.enters_32, callV_func Try.enters_26, callV_func Try.enters_22, callV_func Try.enters_34, callV_func Try.enters_23, allocV_zero Try.zero_32, Try.st_32, callV_func Try.enters_20, Try.fa_45_0, Try.ld_43, Try.len_43, callV_func Try.enters_19, Try.ld_32, Try.ia_43, Try.ld_55, callV_func Try.enters_25, x51,  at_run f.toFree3 w10.h, t0,  t3,  t4,  t5,  hlt',  hlt,  h100',  hld3,  e4,  t5',  Value.cells,  List.size_toArray,  hc1,  min_int,  hmin,  hsl,  t6,  hwi,  KInv_normal,  Int.reduceEq,  RetAt_mkg,  RetAt_lastg,  implies_true, rs_tmp (show Try.f5.results = #[.tmp 2] from rfl)]
            refine rat_run f w10.r w10.h.kd _ (by omega) (by omega) ?_
            simp (maxSteps := 2000000) only [B0, B1, B2, B3, B4, B5, B6, B7, Gd, extV, Nat.reduceLT, Nat.reduceEqDiff, Nat.reduceBEq, Nat.reduceAdd, Nat.reduceSub, Nat.reduceMul, ↓reduceIte, reduceCtorEq, if_true, if_false, ite_true, ite_false, Int.reduceLT, Int.reduceLE, ptr, callV_func Try.enters_27, Try.len_22, Try.ia_22, Try.ld_47, allocV_zero Try.zero_47, Try.st_47, Try.fa_47_1, Try.ld_9, Try.len_9, Try.st_9, Try.fa_47_0, Try.ld_3, Try.fa_47_2, Try.ld_2, callV_func Try.enters_28, callV_func Try.enters_29, callV_func Try.enters_30, callV_func Try.enters_31, callV_func Try.enters_24, callV_func Try.enters_33, callV_func Try.enters_32, callV_func Try.enters_26, callV_func Try.enters_22, callV_func Try.enters_34, callV_func Try.enters_23, allocV_zero Try.zero_32, Try.st_32, callV_func Try.enters_20, Try.fa_45_0, Try.ld_43, Try.len_43, callV_func Try.enters_19, Try.ld_32, Try.ia_43, Try.ld_55, callV_func Try.enters_25, t0,  t3,  t4,  t5,  hlt',  hlt,  h100',  hld3,  e4,  t5',  Value.cells,  List.size_toArray,  hc1,  min_int,  hmin,  hsl,  t6,  hwi,  KInv_normal,  Int.reduceEq,  RetAt_mkg,  RetAt_lastg,  implies_true, rs_tmp (show Try.f5.results = #[.tmp 2] from rfl)]
            refine next_run f.toFree3 w10.h fun σ18 c8 hS18 hc0 hc1 => ?_
            obtain ⟨σ19, σ20, e19, t20, hS20, v20, hn20, _⟩ := AE.newVar σ18 32 [.string ⟨#[]⟩, .int .i64 0] (encA (L.headD (⟨#[]⟩, 0))) rfl (encA_single _)
            have w20 := (w10.step hS18).step hS20
            simp only [encA] at t20
            simp (maxSteps := 2000000) only [B0, B1, B2, B3, B4, B5, B6, B7, Gd, extV, Nat.reduceLT, Nat.reduceEqDiff, Nat.reduceBEq, Nat.reduceAdd, Nat.reduceSub, Nat.reduceMul, ↓reduceIte, reduceCtorEq, if_true, if_false, ite_true, ite_false, Int.reduceLT, Int.reduceLE, ptr, callV_func Try.enters_27, Try.len_22, Try.ia_22, Try.ld_47, allocV_zero Try.zero_47, Try.st_47, Try.fa_47_1, Try.ld_9, Try.len_9, Try.st_9, Try.fa_47_0, Try.ld_3, Try.fa_47_2, Try.ld_2, callV_func Try.enters_28, callV_func Try.enters_29, callV_func Try.enters_30, callV_func Try.enters_31, callV_func Try.enters_24, callV_func Try.enters_33, callV_func Try.enters_32, callV_func Try.enters_26, callV_func Try.enters_22, callV_func Try.enters_34, callV_func Try.enters_23, allocV_zero Try.zero_32, Try.st_32, callV_func Try.enters_20, Try.fa_45_0, Try.ld_43, Try.len_43, callV_func Try.enters_19, Try.ld_32, Try.ia_43, Try.ld_55, callV_func Try.enters_25, alV,  e19,  t20,  Value.cells,  List.size_toArray, t0,  t3,  t4,  t5,  hlt',  hlt,  h100',  hld3,  e4,  t5',  Value.cells,  List.size_toArray,  hc1,  min_int,  hmin,  hsl,  t6,  hwi,  KInv_normal,  Int.reduceEq,  RetAt_mkg,  RetAt_lastg,  implies_true, rs_tmp (show Try.f5.results = #[.tmp 2] from rfl)]
            refine Eq.mpr (W_retold (ps := [(10, 14), (10, 15), (20, 24)]) (by kernel_rfl) (by kernel_rfl) (by simp)) ?_
            obtain ⟨a20, k20, ev20, hk20⟩ := w20.r.sl.len
            have ld20 := w20.r.ld0
            rw [ev20] at ld20
            simp (maxSteps := 2000000) only [B0, B1, B2, B3, B4, B5, B6, B7, Gd, extV, Nat.reduceLT, Nat.reduceEqDiff, Nat.reduceBEq, Nat.reduceAdd, Nat.reduceSub, Nat.reduceMul, ↓reduceIte, reduceCtorEq, if_true, if_false, ite_true, ite_false, Int.reduceLT, Int.reduceLE, ptr, callV_func Try.enters_27, Try.len_22, Try.ia_22, Try.ld_47, allocV_zero Try.zero_47, Try.st_47, Try.fa_47_1, Try.ld_9, Try.len_9, Try.st_9, Try.fa_47_0, Try.ld_3, Try.fa_47_2, Try.ld_2, callV_func Try.enters_28, callV_func Try.enters_29, callV_func Try.enters_30, callV_func Try.enters_31, callV_func Try.enters_24, callV_func Try.enters_33, callV_func Try.enters_32, callV_func Try.enters_26, callV_func Try.enters_22, callV_func Try.enters_34, callV_func Try.enters_23, allocV_zero Try.zero_32, Try.st_32, callV_func Try.enters_20, Try.fa_45_0, Try.ld_43, Try.len_43, callV_func Try.enters_19, Try.ld_32, Try.ia_43, Try.ld_55, callV_func Try.enters_25, len_h f.toFree w20.h,  ld20,  bin_bneq Try.underlying4, t0,  t3,  t4,  t5,  hlt',  hlt,  h100',  hld3,  e4,  t5',  Value.cells,  List.size_toArray,  hc1,  min_int,  hmin,  hsl,  t6,  hwi,  KInv_normal,  Int.reduceEq,  RetAt_mkg,  RetAt_lastg,  implies_true, rs_tmp (show Try.f5.results = #[.tmp 2] from rfl)]
            refine all_run f.toFree4 w20.h (by omega) fun σ21 v21 hv21 hb21 hS21 => ?_
            have w21 := w20.step hS21
            have ld21 := w21.r.ld0
            rw [ev20] at ld21
            simp (maxSteps := 2000000) only [B0, B1, B2, B3, B4, B5, B6, B7, Gd, extV, Nat.reduceLT, Nat.reduceEqDiff, Nat.reduceBEq, Nat.reduceAdd, Nat.reduceSub, Nat.reduceMul, ↓reduceIte, reduceCtorEq, if_true, if_false, ite_true, ite_false, Int.reduceLT, Int.reduceLE, ptr, callV_func Try.enters_27, Try.len_22, Try.ia_22, Try.ld_47, allocV_zero Try.zero_47, Try.st_47, Try.fa_47_1, Try.ld_9, Try.len_9, Try.st_9, Try.fa_47_0, Try.ld_3, Try.fa_47_2, Try.ld_2, callV_func Try.enters_28, callV_func Try.enters_29, callV_func Try.enters_30, callV_func Try.enters_31, callV_func Try.enters_24, callV_func Try.enters_33, callV_func Try.enters_32, callV_func Try.enters_26, callV_func Try.enters_22, callV_func Try.enters_34, callV_func Try.enters_23, allocV_zero Try.zero_32, Try.st_32, callV_func Try.enters_20, Try.fa_45_0, Try.ld_43, Try.len_43, callV_func Try.enters_19, Try.ld_32, Try.ia_43, Try.ld_55, callV_func Try.enters_25, ld21, t0,  t3,  t4,  t5,  hlt',  hlt,  h100',  hld3,  e4,  t5',  Value.cells,  List.size_toArray,  hc1,  min_int,  hmin,  hsl,  t6,  hwi,  KInv_normal,  Int.reduceEq,  RetAt_mkg,  RetAt_lastg,  implies_true, rs_tmp (show Try.f5.results = #[.tmp 2] from rfl)]
            refine same_run f.h32 hv21 (by have := w21.r.sl; rw [ev20] at this; exact this) (by omega) (by omega) ?_
            have l21 : ldCells σ21 σ18.next 0 2 = some [.string (L.headD (⟨#[]⟩, 0)).1, .int .i64 (L.headD (⟨#[]⟩, 0)).2] := (v20.same hS21 nofun).ldCells
            have sl21 := w21.r.sl
            rw [ev20] at sl21
            cases L with
            | nil =>
              have := hc0 rfl
              subst this
              have bz : ∀ {u z}, bin Try.prog .neq 32 u z (.agg #[.string ⟨#[]⟩, .int .i64 0]) (.agg #[.string ⟨#[]⟩, .int .i64 0]) = some (.bool false) := by
                intro u z; have := bin_al_ne (x := u) (y := z) (a := (⟨#[]⟩, 0)) (b := (⟨#[]⟩, 0)); simpa [alV] using this
              simp only [List.headD_nil] at l21
              simp (maxSteps := 2000000) only [B0, B1, B2, B3, B4, B5, B6, B7, Gd, extV, Nat.reduceLT, Nat.reduceEqDiff, Nat.reduceBEq, Nat.reduceAdd, Nat.reduceSub, Nat.reduceMul, ↓reduceIte, reduceCtorEq, if_true, if_false, ite_true, ite_false, Int.reduceLT, Int.reduceLE, ptr, callV_func Try.enters_27, Try.len_22, Try.ia_22, Try.ld_47, allocV_zero Try.zero_47, Try.st_47, Try.fa_47_1, Try.ld_9, Try.len_9, Try.st_9, Try.fa_47_0, Try.ld_3, Try.fa_47_2, Try.ld_2, callV_func Try.enters_28, callV_func Try.enters_29, callV_func Try.enters_30, callV_func Try.enters_31, callV_func Try.enters_24, callV_func Try.enters_33, callV_func Try.enters_32, callV_func Try.enters_26, callV_func Try.enters_22, callV_func Try.enters_34, callV_func Try.enters_23, allocV_zero Try.zero_32, Try.st_32, callV_func Try.enters_20, Try.fa_45_0, Try.ld_43, Try.len_43, callV_func Try.enters_19, Try.ld_32, Try.ia_43, Try.ld_55, callV_func Try.enters_25, ld20,  ld21,  len_h f.toFree w20.h,  bin_bneq Try.underlying4,  List.length_nil,  l21,  b32z,  bz, t0,  t3,  t4,  t5,  hlt',  hlt,  h100',  hld3,  e4,  t5',  Value.cells,  List.size_toArray,  hc1,  min_int,  hmin,  hsl,  t6,  hwi,  KInv_normal,  Int.reduceEq,  RetAt_mkg,  RetAt_lastg,  implies_true, rs_tmp (show Try.f5.results = #[.tmp 2] from rfl)]
              exact ⟨99 - i, by omega, _, i + 1, _, _, _, [], rfl, by simp [get_put, t0], by simp [get_put, t3], by simp [get_put, t4], by simp [get_put], by omega, by simp, w21⟩
            | cons y l =>
              have := hc1 _ _ rfl
              subst this
              have hposn : 0 < (y :: l).length := by simp
              have hpos : (0 : Int) < ((y :: l).length : Int) := by omega
              obtain ⟨b9, o9, cap9, g9, e, hcap9, hbl9, hr9⟩ := sl21.at_ (i := 0) rfl
              injection e with e _ e3
              subst e e3
              have l9 := hr9.ldCells encOk (i := 0) rfl
              simp only [encA, Nat.zero_mul, Nat.add_zero] at l9
              simp only [List.headD_cons] at l21
              generalize hlen : (y :: l).length = len9 at *
              simp (maxSteps := 2000000) only [B0, B1, B2, B3, B4, B5, B6, B7, Gd, extV, Nat.reduceLT, Nat.reduceEqDiff, Nat.reduceBEq, Nat.reduceAdd, Nat.reduceSub, Nat.reduceMul, ↓reduceIte, reduceCtorEq, if_true, if_false, ite_true, ite_false, Int.reduceLT, Int.reduceLE, ptr, callV_func Try.enters_27, Try.len_22, Try.ia_22, Try.ld_47, allocV_zero Try.zero_47, Try.st_47, Try.fa_47_1, Try.ld_9, Try.len_9, Try.st_9, Try.fa_47_0, Try.ld_3, Try.fa_47_2, Try.ld_2, callV_func Try.enters_28, callV_func Try.enters_29, callV_func Try.enters_30, callV_func Try.enters_31, callV_func Try.enters_24, callV_func Try.enters_33, callV_func Try.enters_32, callV_func Try.enters_26, callV_func Try.enters_22, callV_func Try.enters_34, callV_func Try.enters_23, allocV_zero Try.zero_32, Try.st_32, callV_func Try.enters_20, Try.fa_45_0, Try.ld_43, Try.len_43, callV_func Try.enters_19, Try.ld_32, Try.ia_43, Try.ld_55, callV_func Try.enters_25, ld20,  ld21,  len_h f.toFree w20.h,  bin_bneq Try.underlying4,  hpos,  hposn,  l21,  l9,  bin_al55,  hlen,  Nat.zero_mul, t0,  t3,  t4,  t5,  hlt',  hlt,  h100',  hld3,  e4,  t5',  Value.cells,  List.size_toArray,  hc1,  min_int,  hmin,  hsl,  t6,  hwi,  KInv_normal,  Int.reduceEq,  RetAt_mkg,  RetAt_lastg,  implies_true, rs_tmp (show Try.f5.results = #[.tmp 2] from rfl)]
              exact ⟨99 - i, by omega, _, i + 1, _, _, _, y :: l, rfl, by simp [get_put, t0], by simp [get_put, t3], by simp [get_put, t4], by simp [get_put], by omega, by omega, w21⟩
          · have n5 : (w = 5) = False := eq_false c5
            have hl9' : L.length ≤ i + 1 := by omega
            simp (maxSteps := 2000000) only [B0, B1, B2, B3, B4, B5, B6, B7, Gd, extV, Nat.reduceLT, Nat.reduceEqDiff, Nat.reduceBEq, Nat.reduceAdd, Nat.reduceSub, Nat.reduceMul, ↓reduceIte, reduceCtorEq, if_true, if_false, ite_true, ite_false, Int.reduceLT, Int.reduceLE, ptr, callV_func Try.enters_27, Try.len_22, Try.ia_22, Try.ld_47, allocV_zero Try.zero_47, Try.st_47, Try.fa_47_1, Try.ld_9, Try.len_9, Try.st_9, Try.fa_47_0, Try.ld_3, Try.fa_47_2, Try.ld_2, callV_func Try.enters_28, callV_func Try.enters_29, callV_func Try.enters_30, callV_func Try.enters_31, callV_func Try.enters_24, callV_func Try.enters_33, callV_func Try.enters_32, callV_func Try.enters_26, callV_func Try.enters_22, callV_func Try.enters_34, callV_func Try.enters_23, allocV_zero Try.zero_32, Try.st_32, callV_func Try.enters_20, Try.fa_45_0, Try.ld_43, Try.len_43, callV_func Try.enters_19, Try.ld_32, Try.ia_43, Try.ld_55, callV_func Try.enters_25, x60,  n0,  n1,  n2,  n3',  n4,  n5, t0,  t3,  t4,  t5,  hlt',  hlt,  h100',  hld3,  e4,  t5',  Value.cells,  List.size_toArray,  hc1,  min_int,  hmin,  hsl,  t6,  hwi,  KInv_normal,  Int.reduceEq,  RetAt_mkg,  RetAt_lastg,  implies_true, rs_tmp (show Try.f5.results = #[.tmp 2] from rfl)]
            have x51 := x6.ld (o := 1) rfl
            simp (maxSteps := 2000000) only [B0, B1, B2, B3, B4, B5, B6, B7, Gd, extV, Nat.reduceLT, Nat.reduceEqDiff, Nat.reduceBEq, Nat.reduceAdd, Nat.reduceSub, Nat.reduceMul, ↓reduceIte, reduceCtorEq, if_true, if_false, ite_true, ite_false, Int.reduceLT, Int.reduceLE, ptr, callV_func Try.enters_27, Try.len_22, Try.ia_22, Try.ld_47, allocV_zero Try.zero_47, Try.st_47, Try.fa_47_1, Try.ld_9, Try.len_9, Try.st_9, Try.fa_47_0, Try.ld_3, Try.fa_47_2, Try.ld_2, callV_func Try.enters_28, callV_func Try.enters_29, callV_func Try.enters_30, callV_func Try.enters_31, callV_func Try.enters_24, callV_func Try.enters_33, callV_func Try.enters_32, callV_func Try.enters_26, callV_func Try.enters_22, callV_func Try.enters_34, callV_func Try.enters_23, allocV_zero Try.zero_32, Try.st_32, callV_func Try.enters_20, Try.fa_45_0, Try.ld_43, Try.len_43, callV_func Try.enters_19, Try.ld_32, Try.ia_43, Try.ld_55, callV_func Try.enters_25, x51,  at_run f.toFree3 w6.h, t0,  t3,  t4,  t5,  hlt',  hlt,  h100',  hld3,  e4,  t5',  Value.cells,  List.size_toArray,  hc1,  min_int,  hmin,  hsl,  t6,  hwi,  KInv_normal,  Int.reduceEq,  RetAt_mkg,  RetAt_lastg,  implies_true, rs_tmp (show Try.f5.results = #[.tmp 2] from rfl)]
            refine rat_run f w6.r w6.h.kd _ (by omega) (by omega) ?_
            simp (maxSteps := 2000000) only [B0, B1, B2, B3, B4, B5, B6, B7, Gd, extV, Nat.reduceLT, Nat.reduceEqDiff, Nat.reduceBEq, Nat.reduceAdd, Nat.reduceSub, Nat.reduceMul, ↓reduceIte, reduceCtorEq, if_true, if_false, ite_true, ite_false, Int.reduceLT, Int.reduceLE, ptr, callV_func Try.enters_27, Try.len_22, Try.ia_22, Try.ld_47, allocV_zero Try.zero_47, Try.st_47, Try.fa_47_1, Try.ld_9, Try.len_9, Try.st_9, Try.fa_47_0, Try.ld_3, Try.fa_47_2, Try.ld_2, callV_func Try.enters_28, callV_func Try.enters_29, callV_func Try.enters_30, callV_func Try.enters_31, callV_func Try.enters_24, callV_func Try.enters_33, callV_func Try.enters_32, callV_func Try.enters_26, callV_func Try.enters_22, callV_func Try.enters_34, callV_func Try.enters_23, allocV_zero Try.zero_32, Try.st_32, callV_func Try.enters_20, Try.fa_45_0, Try.ld_43, Try.len_43, callV_func Try.enters_19, Try.ld_32, Try.ia_43, Try.ld_55, callV_func Try.enters_25, t0,  t3,  t4,  t5,  hlt',  hlt,  h100',  hld3,  e4,  t5',  Value.cells,  List.size_toArray,  hc1,  min_int,  hmin,  hsl,  t6,  hwi,  KInv_normal,  Int.reduceEq,  RetAt_mkg,  RetAt_lastg,  implies_true, rs_tmp (show Try.f5.results = #[.tmp 2] from rfl)]
            refine next_run f.toFree3 w6.h fun σ18 c8 hS18 hc0 hc1 => ?_
            obtain ⟨σ19, σ20, e19, t20, hS20, v20, hn20, _⟩ := AE.newVar σ18 32 [.string ⟨#[]⟩, .int .i64 0] (encA (L.headD (⟨#[]⟩, 0))) rfl (encA_single _)
            have w20 := (w6.step hS18).step hS20
            simp only [encA] at t20
            simp (maxSteps := 2000000) only [B0, B1, B2, B3, B4, B5, B6, B7, Gd, extV, Nat.reduceLT, Nat.reduceEqDiff, Nat.reduceBEq, Nat.reduceAdd, Nat.reduceSub, Nat.reduceMul, ↓reduceIte, reduceCtorEq, if_true, if_false, ite_true, ite_false, Int.reduceLT, Int.reduceLE, ptr, callV_func Try.enters_27, Try.len_22, Try.ia_22, Try.ld_47, allocV_zero Try.zero_47, Try.st_47, Try.fa_47_1, Try.ld_9, Try.len_9, Try.st_9, Try.fa_47_0, Try.ld_3, Try.fa_47_2, Try.ld_2, callV_func Try.enters_28, callV_func Try.enters_29, callV_func Try.enters_30, callV_func Try.enters_31, callV_func Try.enters_24, callV_func Try.enters_33, callV_func Try.enters_32, callV_func Try.enters_26, callV_func Try.enters_22, callV_func Try.enters_34, callV_func Try.enters_23, allocV_zero Try.zero_32, Try.st_32, callV_func Try.enters_20, Try.fa_45_0, Try.ld_43, Try.len_43, callV_func Try.enters_19, Try.ld_32, Try.ia_43, Try.ld_55, callV_func Try.enters_25, alV,  e19,  t20,  Value.cells,  List.size_toArray, t0,  t3,  t4,  t5,  hlt',  hlt,  h100',  hld3,  e4,  t5',  Value.cells,  List.size_toArray,  hc1,  min_int,  hmin,  hsl,  t6,  hwi,  KInv_normal,  Int.reduceEq,  RetAt_mkg,  RetAt_lastg,  implies_true, rs_tmp (show Try.f5.results = #[.tmp 2] from rfl)]
            refine Eq.mpr (W_retold (ps := [(10, 14), (10, 15), (20, 24)]) (by kernel_rfl) (by kernel_rfl) (by simp)) ?_
            obtain ⟨a20, k20, ev20, hk20⟩ := w20.r.sl.len
            have ld20 := w20.r.ld0
            rw [ev20] at ld20
            simp (maxSteps := 2000000) only [B0, B1, B2, B3, B4, B5, B6, B7, Gd, extV, Nat.reduceLT, Nat.reduceEqDiff, Nat.reduceBEq, Nat.reduceAdd, Nat.reduceSub, Nat.reduceMul, ↓reduceIte, reduceCtorEq, if_true, if_false, ite_true, ite_false, Int.reduceLT, Int.reduceLE, ptr, callV_func Try.enters_27, Try.len_22, Try.ia_22, Try.ld_47, allocV_zero Try.zero_47, Try.st_47, Try.fa_47_1, Try.ld_9, Try.len_9, Try.st_9, Try.fa_47_0, Try.ld_3, Try.fa_47_2, Try.ld_2, callV_func Try.enters_28, callV_func Try.enters_29, callV_func Try.enters_30, callV_func Try.enters_31, callV_func Try.enters_24, callV_func Try.enters_33, callV_func Try.enters_32, callV_func Try.enters_26, callV_func Try.enters_22, callV_func Try.enters_34, callV_func Try.enters_23, allocV_zero Try.zero_32, Try.st_32, callV_func Try.enters_20, Try.fa_45_0, Try.ld_43, Try.len_43, callV_func Try.enters_19, Try.ld_32, Try.ia_43, Try.ld_55, callV_func Try.enters_25, len_h f.toFree w20.h,  ld20,  bin_bneq Try.underlying4, t0,  t3,  t4,  t5,  hlt',  hlt,  h100',  hld3,  e4,  t5',  Value.cells,  List.size_toArray,  hc1,  min_int,  hmin,  hsl,  t6,  hwi,  KInv_normal,  Int.reduceEq,  RetAt_mkg,  RetAt_lastg,  implies_true, rs_tmp (show Try.f5.results = #[.tmp 2] from rfl)]
            refine all_run f.toFree4 w20.h (by omega) fun σ21 v21 hv21 hb21 hS21 => ?_
            have w21 := w20.step hS21
            have ld21 := w21.r.ld0
            rw [ev20] at ld21
            simp (maxSteps := 2000000) only [B0, B1, B2, B3, B4, B5, B6, B7, Gd, extV, Nat.reduceLT, Nat.reduceEqDiff, Nat.reduceBEq, Nat.reduceAdd, Nat.reduceSub, Nat.reduceMul, ↓reduceIte, reduceCtorEq, if_true, if_false, ite_true, ite_false, Int.reduceLT, Int.reduceLE, ptr, callV_func Try.enters_27, Try.len_22, Try.ia_22, Try.ld_47, allocV_zero Try.zero_47, Try.st_47, Try.fa_47_1, Try.ld_9, Try.len_9, Try.st_9, Try.fa_47_0, Try.ld_3, Try.fa_47_2, Try.ld_2, callV_func Try.enters_28, callV_func Try.enters_29, callV_func Try.enters_30, callV_func Try.enters_31, callV_func Try.enters_24, callV_func Try.enters_33, callV_func Try.enters_32, callV_func Try.enters_26, callV_func Try.enters_22, callV_func Try.enters_34, callV_func Try.enters_23, allocV_zero Try.zero_32, Try.st_32, callV_func Try.enters_20, Try.fa_45_0, Try.ld_43, Try.len_43, callV_func Try.enters_19, Try.ld_32, Try.ia_43, Try.ld_55, callV_func Try.enters_25, ld21, t0,  t3,  t4,  t5,  hlt',  hlt,  h100',  hld3,  e4,  t5',  Value.cells,  List.size_toArray,  hc1,  min_int,  hmin,  hsl,  t6,  hwi,  KInv_normal,  Int.reduceEq,  RetAt_mkg,  RetAt_lastg,  implies_true, rs_tmp (show Try.f5.results = #[.tmp 2] from rfl)]
            refine same_run f.h32 hv21 (by have := w21.r.sl; rw [ev20] at this; exact this) (by omega) (by omega) ?_
            have l21 : ldCells σ21 σ18.next 0 2 = some [.string (L.headD (⟨#[]⟩, 0)).1, .int .i64 (L.headD (⟨#[]⟩, 0)).2] := (v20.same hS21 nofun).ldCells
            have sl21 := w21.r.sl
            rw [ev20] at sl21
            cases L with
            | nil =>
              have := hc0 rfl
              subst this
              have bz : ∀ {u z}, bin Try.prog .neq 32 u z (.agg #[.string ⟨#[]⟩, .int .i64 0]) (.agg #[.string ⟨#[]⟩, .int .i64 0]) = some (.bool false) := by
                intro u z; have := bin_al_ne (x := u) (y := z) (a := (⟨#[]⟩, 0)) (b := (⟨#[]⟩, 0)); simpa [alV] using this
              simp only [List.headD_nil] at l21
              simp (maxSteps := 2000000) only [B0, B1, B2, B3, B4, B5, B6, B7, Gd, extV, Nat.reduceLT, Nat.reduceEqDiff, Nat.reduceBEq, Nat.reduceAdd, Nat.reduceSub, Nat.reduceMul, ↓reduceIte, reduceCtorEq, if_true, if_false, ite_true, ite_false, Int.reduceLT, Int.reduceLE, ptr, callV_func Try.enters_27, Try.len_22, Try.ia_22, Try.ld_47, allocV_zero Try.zero_47, Try.st_47, Try.fa_47_1, Try.ld_9, Try.len_9, Try.st_9, Try.fa_47_0, Try.ld_3, Try.fa_47_2, Try.ld_2, callV_func Try.enters_28, callV_func Try.enters_29, callV_func Try.enters_30, callV_func Try.enters_31, callV_func Try.enters_24, callV_func Try.enters_33, callV_func Try.enters_32, callV_func Try.enters_26, callV_func Try.enters_22, callV_func Try.enters_34, callV_func Try.enters_23, allocV_zero Try.zero_32, Try.st_32, callV_func Try.enters_20, Try.fa_45_0, Try.ld_43, Try.len_43, callV_func Try.enters_19, Try.ld_32, Try.ia_43, Try.ld_55, callV_func Try.enters_25, ld20,  ld21,  len_h f.toFree w20.h,  bin_bneq Try.underlying4,  List.length_nil,  l21,  b32z,  bz, t0,  t3,  t4,  t5,  hlt',  hlt,  h100',  hld3,  e4,  t5',  Value.cells,  List.size_toArray,  hc1,  min_int,  hmin,  hsl,  t6,  hwi,  KInv_normal,  Int.reduceEq,  RetAt_mkg,  RetAt_lastg,  implies_true, rs_tmp (show Try.f5.results = #[.tmp 2] from rfl)]
              exact ⟨99 - i, by omega, _, i + 1, _, _, _, [], rfl, by simp [get_put, t0], by simp [get_put, t3], by simp [get_put, t4], by simp [get_put], by omega, by simp, w21⟩
            | cons y l =>
              have := hc1 _ _ rfl
              subst this
              have hposn : 0 < (y :: l).length := by simp
              have hpos : (0 : Int) < ((y :: l).length : Int) := by omega
              obtain ⟨b9, o9, cap9, g9, e, hcap9, hbl9, hr9⟩ := sl21.at_ (i := 0) rfl
              injection e with e _ e3
              subst e e3
              have l9 := hr9.ldCells encOk (i := 0) rfl
              simp only [encA, Nat.zero_mul, Nat.add_zero] at l9
              simp only [List.headD_cons] at l21
              generalize hlen : (y :: l).length = len9 at *
              simp (maxSteps := 2000000) only [B0, B1, B2, B3, B4, B5, B6, B7, Gd, extV, Nat.reduceLT, Nat.reduceEqDiff, Nat.reduceBEq, Nat.reduceAdd, Nat.reduceSub, Nat.reduceMul, ↓reduceIte, reduceCtorEq, if_true, if_false, ite_true, ite_false, Int.reduceLT, Int.reduceLE, ptr, callV_func Try.enters_27, Try.len_22, Try.ia_22, Try.ld_47, allocV_zero Try.zero_47, Try.st_47, Try.fa_47_1, Try.ld_9, Try.len_9, Try.st_9, Try.fa_47_0, Try.ld_3, Try.fa_47_2, Try.ld_2, callV_func Try.enters_28, callV_func Try.enters_29, callV_func Try.enters_30, callV_func Try.enters_31, callV_func Try.enters_24, callV_func Try.enters_33, callV_func Try.enters_32, callV_func Try.enters_26, callV_func Try.enters_22, callV_func Try.enters_34, callV_func Try.enters_23, allocV_zero Try.zero_32, Try.st_32, callV_func Try.enters_20, Try.fa_45_0, Try.ld_43, Try.len_43, callV_func Try.enters_19, Try.ld_32, Try.ia_43, Try.ld_55, callV_func Try.enters_25, ld20,  ld21,  len_h f.toFree w20.h,  bin_bneq Try.underlying4,  hpos,  hposn,  l21,  l9,  bin_al55,  hlen,  Nat.zero_mul, t0,  t3,  t4,  t5,  hlt',  hlt,  h100',  hld3,  e4,  t5',  Value.cells,  List.size_toArray,  hc1,  min_int,  hmin,  hsl,  t6,  hwi,  KInv_normal,  Int.reduceEq,  RetAt_mkg,  RetAt_lastg,  implies_true, rs_tmp (show Try.f5.results = #[.tmp 2] from rfl)]
              exact ⟨99 - i, by omega, _, i + 1, _, _, _, y :: l, rfl, by simp [get_put, t0], by simp [get_put, t3], by simp [get_put, t4], by simp [get_put], by omega, by omega, w21⟩
  · have hgo' : ((i : Int) < (cl.length : Int) ∧ (i : Int) < 100) = False := eq_false (by omega)
    by_cases hlt : i < cl.length
    · have c1 : ((i : Int) < (cl.length : Int)) = True := eq_true (by omega)
      have c2 : ((i : Int) < 100) = False := eq_false (by omega)
      simp (maxSteps := 2000000) only [B0, B1, B2, B3, B4, B5, B6, B7, Gd, extV, Nat.reduceLT, Nat.reduceEqDiff, Nat.reduceBEq, Nat.reduceAdd, Nat.reduceSub, Nat.reduceMul, ↓reduceIte, reduceCtorEq, if_true, if_false, ite_true, ite_false, Int.reduceLT, Int.reduceLE, ptr, callV_func Try.enters_27, Try.len_22, Try.ia_22, Try.ld_47, allocV_zero Try.zero_47, Try.st_47, Try.fa_47_1, Try.ld_9, Try.len_9, Try.st_9, Try.fa_47_0, Try.ld_3, Try.fa_47_2, Try.ld_2, callV_func Try.enters_28, callV_func Try.enters_29, callV_func Try.enters_30, callV_func Try.enters_31, callV_func Try.enters_24, callV_func Try.enters_33, callV_func Try.enters_32, callV_func Try.enters_26, callV_func Try.enters_22, callV_func Try.enters_34, callV_func Try.enters_23, allocV_zero Try.zero_32, Try.st_32, callV_func Try.enters_20, Try.fa_45_0, Try.ld_43, Try.len_43, callV_func Try.enters_19, Try.ld_32, Try.ia_43, Try.ld_55, callV_func Try.enters_25, t0,  t3,  t4,  t5,  c1,  c2, rs_tmp (show Try.f5.results = #[.tmp 2] from rfl)]
      refine tells_run f.toFree6 (by omega) fun σ4 hS4 => ?_
      simp (maxSteps := 2000000) only [B0, B1, B2, B3, B4, B5, B6, B7, Gd, extV, Nat.reduceLT, Nat.reduceEqDiff, Nat.reduceBEq, Nat.reduceAdd, Nat.reduceSub, Nat.reduceMul, ↓reduceIte, reduceCtorEq, if_true, if_false, ite_true, ite_false, Int.reduceLT, Int.reduceLE, ptr, callV_func Try.enters_27, Try.len_22, Try.ia_22, Try.ld_47, allocV_zero Try.zero_47, Try.st_47, Try.fa_47_1, Try.ld_9, Try.len_9, Try.st_9, Try.fa_47_0, Try.ld_3, Try.fa_47_2, Try.ld_2, callV_func Try.enters_28, callV_func Try.enters_29, callV_func Try.enters_30, callV_func Try.enters_31, callV_func Try.enters_24, callV_func Try.enters_33, callV_func Try.enters_32, callV_func Try.enters_26, callV_func Try.enters_22, callV_func Try.enters_34, callV_func Try.enters_23, allocV_zero Try.zero_32, Try.st_32, callV_func Try.enters_20, Try.fa_45_0, Try.ld_43, Try.len_43, callV_func Try.enters_19, Try.ld_32, Try.ia_43, Try.ld_55, callV_func Try.enters_25, rs_tmp (show Try.f5.results = #[.tmp 2] from rfl)]
      exact hQ _ (w3.same.trans hS4 nofun)
    · have c1 : ((i : Int) < (cl.length : Int)) = False := eq_false (by omega)
      simp (maxSteps := 2000000) only [B0, B1, B2, B3, B4, B5, B6, B7, Gd, extV, Nat.reduceLT, Nat.reduceEqDiff, Nat.reduceBEq, Nat.reduceAdd, Nat.reduceSub, Nat.reduceMul, ↓reduceIte, reduceCtorEq, if_true, if_false, ite_true, ite_false, Int.reduceLT, Int.reduceLE, ptr, callV_func Try.enters_27, Try.len_22, Try.ia_22, Try.ld_47, allocV_zero Try.zero_47, Try.st_47, Try.fa_47_1, Try.ld_9, Try.len_9, Try.st_9, Try.fa_47_0, Try.ld_3, Try.fa_47_2, Try.ld_2, callV_func Try.enters_28, callV_func Try.enters_29, callV_func Try.enters_30, callV_func Try.enters_31, callV_func Try.enters_24, callV_func Try.enters_33, callV_func Try.enters_32, callV_func Try.enters_26, callV_func Try.enters_22, callV_func Try.enters_34, callV_func Try.enters_23, allocV_zero Try.zero_32, Try.st_32, callV_func Try.enters_20, Try.fa_45_0, Try.ld_43, Try.len_43, callV_func Try.enters_19, Try.ld_32, Try.ia_43, Try.ld_55, callV_func Try.enters_25, t0,  t3,  t4,  t5,  c1, rs_tmp (show Try.f5.results = #[.tmp 2] from rfl)]
      refine tells_run f.toFree6 (by omega) fun σ4 hS4 => ?_
      simp (maxSteps := 2000000) only [B0, B1, B2, B3, B4, B5, B6, B7, Gd, extV, Nat.reduceLT, Nat.reduceEqDiff, Nat.reduceBEq, Nat.reduceAdd, Nat.reduceSub, Nat.reduceMul, ↓reduceIte, reduceCtorEq, if_true, if_false, ite_true, ite_false, Int.reduceLT, Int.reduceLE, ptr, callV_func Try.enters_27, Try.len_22, Try.ia_22, Try.ld_47, allocV_zero Try.zero_47, Try.st_47, Try.fa_47_1, Try.ld_9, Try.len_9, Try.st_9, Try.fa_47_0, Try.ld_3, Try.fa_47_2, Try.ld_2, callV_func Try.enters_28, callV_func Try.enters_29, callV_func Try.enters_30, callV_func Try.enters_31, callV_func Try.enters_24, callV_func Try.enters_33, callV_func Try.enters_32, callV_func Try.enters_26, callV_func Try.enters_22, callV_func Try.enters_34, callV_func Try.enters_23, allocV_zero Try.zero_32, Try.st_32, callV_func Try.enters_20, Try.fa_45_0, Try.ld_43, Try.len_43, callV_func Try.enters_19, Try.ld_32, Try.ia_43, Try.ld_55, callV_func Try.enters_25, rs_tmp (show Try.f5.results = #[.tmp 2] from rfl)]
      exact hQ _ (w3.same.trans hS4 nofun)
end Go.Proofs.Ytongccpmdndcgaa.Alm
end
/- The law that compares the alarms with the document's. -/
section
set_option linter.all false
namespace Go.Proofs.Ytongccpmdndcgaa.Alm
open Go Go.AE Go.Hp Go.Sort Go.Proofs Go.RowKit Go.ChangeShapes
theorem free8 : Free8 (orcs table) := { free with h29 := rfl, h31 := rfl, h32 := rfl, h33 := rfl, h34 := rfl, h108 := rfl }
theorem tells_law {H : Type} {enc : TypeId × Value → H} {w : World} {held : Bool} {a : Option Addr} {len cap : Nat} {d : DataW H} {ps : List MemPlace} (h : DataW.Trod enc Try.prog w 0 (fun _ => true) held 22 (.slice a len cap) d ps) :
    Calls Try.prog 5 #[.slice a len cap] w fun e w' => e = .returned (.bool true) ∧ Below w.heap.size w w' := by
  obtain ⟨σ, ρ, v, L, hR, hv, hs, hro⟩ := slice_arg encCOk encC_atom Try.underlying22 c47 decC h
  exact open_true (by kernel_rfl) told hR hro (.cons hv .nil) (tells_law_run free8 hs (n := 300) (by omega) fun _ _ => rfl)
end Go.Proofs.Ytongccpmdndcgaa.Alm
end
