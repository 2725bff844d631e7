/- Texts of this proof, gathered. What each part says stands at its head; conditions: none but those that its theorems name. -/
import Derived.Test.YtongccpmdndcgaaTac
/- The document's table in memory: Find, New, first, take. -/
section
set_option linter.all false
namespace Go.Proofs.Ytongccpmdndcgaa.Tab
open Go Go.AE Go.Proofs.Ytongccpmdndcgaa.Alm Go.Sort Go.Proofs
set_option maxRecDepth 100000
set_option maxHeartbeats 1000000
attribute [local irreducible] Go.AE.Tr.put Go.AE.Tr.get
variable {gs : List Nat} {orc : Orc} {n : Nat} {σ : AHeap} {Q : Value × AHeap → Prop}
variable {q room : Nat} {v : Value} {T : List E} {ref : Bool}

structure FreeW (orc : Orc) : Prop extends FreeV orc where
  h51 : orc 51 = none
  h52 : orc 52 = none
  h53 : orc 53 = none
  h54 : orc 54 = none
  h55 : orc 55 = none
  h56 : orc 56 = none
  h57 : orc 57 = none
  h58 : orc 58 = none
  h59 : orc 59 = none
  h60 : orc 60 = none
  h61 : orc 61 = none
  h62 : orc 62 = none
  h123 : orc 123 = none
  h124 : orc 124 = none
  h125 : orc 125 = none
/-- The document's table in memory. -/
structure RT (σ : AHeap) (q : Nat) (v : Value) (T : List E) (room : Nat) (ref : Bool) : Prop where
  obj : VarAt σ q [v, .int .i64 (room : Int), .bool ref]
  sl : SlAt σ 89 4 encE v T
  qv : q ∉ blks v
theorem RT.same {σ' : AHeap} {G : List Nat} (h : RT σ q v T room ref) (hs : Same σ σ' G) (h1 : q ∉ G) (h2 : ∀ b ∈ blks v, b ∉ G) : RT σ' q v T room ref := ⟨h.obj.same hs h1, h.sl.same hs h2, h.qv⟩
theorem RT.ld0 (h : RT σ q v T room ref) : ld σ q 0 = some v := h.obj.ld rfl
theorem RT.ld1 (h : RT σ q v T room ref) : ld σ q 1 = some (.int .i64 (room : Int)) := h.obj.ld rfl
theorem RT.ld2 (h : RT σ q v T room ref) : ld σ q 2 = some (.bool ref) := h.obj.ld rfl
theorem RT.put (h : RT σ q v T room ref) {v' : Value} {T' : List E} (hv : SlAt σ 89 4 encE v' T') (hq : q ∉ blks v') : ∃ σ', stCells σ q 0 [v'] = some σ' ∧ RT σ' q v' T' room ref ∧ Same σ σ' [q] ∧ σ'.next = σ.next := by
  obtain ⟨a, c, rfl, _⟩ := hv.len
  obtain ⟨σ', t, hv', hS, hn⟩ := h.obj.storeAt (i := 0) (by simp) (v := .slice a T'.length c) rfl
  exact ⟨σ', t, ⟨hv', hv.same hS (fun b hb w => by simp at w; exact hq (w ▸ hb)), hq⟩, hS, hn⟩
theorem rfind_run (f : FreeW orc) (h : RT σ q v T room ref) (k : ByteArray) (hn : T.length < n) (hN : T.length ≤ 1048576)
    (h1 : getE k T = none → Q (.int .i64 (-1), σ)) (h2 : ∀ (j : Nat) (y : E), T[j]? = some y → y.1 = k → Q (.int .i64 (j : Int), σ)) : W (acall Try.prog gs orc (n + 1) 57 [pt q, .string k] σ) Q := by
  obtain ⟨a, c, rfl, hc⟩ := h.sl.len
  rw [W_start (m := 26) (keep := []) Try.func57 rfl (by kernel_rfl) (by kernel_rfl) (by first | rfl | assumption | exact f.h57) (by rfl)]
  simp (maxSteps := 2000000) only [B0, B1, B2, B3, B4, B5, B6, B7, Gd, extV, Nat.reduceLT, Nat.reduceEqDiff, Nat.reduceBEq, Nat.reduceAdd, Nat.reduceSub, Nat.reduceMul, ↓reduceIte, reduceCtorEq, if_true, if_false, ite_true, ite_false, Int.reduceLT, Int.reduceLE, ptr, Try.fa_95_0, Try.ld_87, Try.len_87, Try.ia_87, Try.fa_89_0, Try.ld_9, rs_tmp (show Try.f57.results = #[.tmp 4] from rfl)]
  refine W_inv (fun m fr σ' => σ' = σ ∧ ∃ (t : Tr Value) (i : Nat), fr = ⟨26, t⟩ ∧ t.get 0 = some (pt q) ∧ t.get 1 = some (.string k) ∧ t.get 5 = some (.int .i64 (i : Int)) ∧ m + i = T.length ∧ ∀ j y, j < i → T[j]? = some y → y.1 ≠ k) T.length (by omega)
    ⟨rfl, _, 0, rfl, by simp [get_put, get_args], by simp [get_put, get_args], by simp [get_put], rfl, fun j y hj => by omega⟩ ?_
  rintro m fr σ1 ⟨rfl, t, i, rfl, t0, t1, t5, hm, hb⟩
  have hl0 := h.ld0
  by_cases hlt : i < T.length
  · have hx := List.getElem?_eq_getElem hlt
    generalize T[i] = x at hx
    obtain ⟨b, o, cap, g, e, hcap, hbl, hr⟩ := h.sl.at_ hx
    injection e with e _ e3
    subst e e3
    have x0 := hr.ld (j := 0) (v := .string x.1) hx rfl
    simp only [Nat.add_zero] at x0
    have hlt' : (i : Int) < (T.length : Int) := by omega
    have hw1 : IntKind.i64.wrap ((i : Int) + 1) = ((i + 1 : Nat) : Int) := wrap64 (by omega) (by omega)
    by_cases hk : x.1 = k
    · subst hk
      simp (maxSteps := 2000000) only [B0, B1, B2, B3, B4, B5, B6, B7, Gd, extV, Nat.reduceLT, Nat.reduceEqDiff, Nat.reduceBEq, Nat.reduceAdd, Nat.reduceSub, Nat.reduceMul, ↓reduceIte, reduceCtorEq, if_true, if_false, ite_true, ite_false, Int.reduceLT, Int.reduceLE, ptr, Try.fa_95_0, Try.ld_87, Try.len_87, Try.ia_87, Try.fa_89_0, Try.ld_9, t0,  t1,  t5,  hl0,  hlt',  hlt,  x0, rs_tmp (show Try.f57.results = #[.tmp 4] from rfl)]
      exact h2 i x hx rfl
    · have hk' : (x.1 = k) = False := eq_false hk
      simp (maxSteps := 2000000) only [B0, B1, B2, B3, B4, B5, B6, B7, Gd, extV, Nat.reduceLT, Nat.reduceEqDiff, Nat.reduceBEq, Nat.reduceAdd, Nat.reduceSub, Nat.reduceMul, ↓reduceIte, reduceCtorEq, if_true, if_false, ite_true, ite_false, Int.reduceLT, Int.reduceLE, ptr, Try.fa_95_0, Try.ld_87, Try.len_87, Try.ia_87, Try.fa_89_0, Try.ld_9, t0,  t1,  t5,  hl0,  hlt',  hlt,  x0,  hk',  hw1,  KInv_normal, rs_tmp (show Try.f57.results = #[.tmp 4] from rfl)]
      refine ⟨T.length - (i + 1), by omega, _, i + 1, rfl, by simp [get_put, t0], by simp [get_put, t1], by simp [get_put], by omega, fun j y hj hy => ?_⟩
      by_cases hji : j = i
      · subst hji; rw [hx] at hy; cases hy; exact hk
      · exact hb j y (by omega) hy
  · have hlt' : ((i : Int) < (T.length : Int)) = False := eq_false (by omega)
    simp (maxSteps := 2000000) only [B0, B1, B2, B3, B4, B5, B6, B7, Gd, extV, Nat.reduceLT, Nat.reduceEqDiff, Nat.reduceBEq, Nat.reduceAdd, Nat.reduceSub, Nat.reduceMul, ↓reduceIte, reduceCtorEq, if_true, if_false, ite_true, ite_false, Int.reduceLT, Int.reduceLE, ptr, Try.fa_95_0, Try.ld_87, Try.len_87, Try.ia_87, Try.fa_89_0, Try.ld_9, t0,  t1,  t5,  hl0,  hlt', rs_tmp (show Try.f57.results = #[.tmp 4] from rfl)]
    exact h1 (getE_none.2 fun y hy => by
      obtain ⟨j, hj⟩ := List.mem_iff_getElem?.1 hy
      exact hb j y (by have := (List.getElem?_eq_some_iff.1 hj).1; omega) hj)
theorem bld95 {r : Int} {b : Bool} : build' Try.prog 95 [(1, .int .i64 r), (2, .bool b)] = some (.agg #[.slice none 0 0, .int .i64 r, .bool b]) := by kernel_rfl
theorem rnew_run (f : FreeW orc) (hr : room ≤ 1024)
    (hQ : ∀ σ' q, RT σ' q (.slice none 0 0) [] room ref → σ.next ≤ q → Same σ σ' [] → Q (.tuple #[pt q, .int .i64 0], σ')) :
    W (acall Try.prog gs orc (n + 1) 51 [.int .i64 (room : Int), .bool ref] σ) Q := by
  have h1 : ((room : Int) < 0) = False := eq_false (by omega)
  have h2 : ((1024 : Int) < (room : Int)) = False := eq_false (by omega)
  obtain ⟨σ1, e1, hS1, v1, hn1⟩ := AE.oneVar σ 95 [.slice none 0 0, .int .i64 (room : Int), .bool ref] false
  rw [W_start (m := 16) (keep := []) Try.func51 rfl (by kernel_rfl) (by kernel_rfl) (by first | rfl | assumption | exact f.h51) (by rfl)]
  simp (maxSteps := 2000000) only [B0, B1, B2, B3, B4, B5, B6, B7, Gd, extV, Nat.reduceLT, Nat.reduceEqDiff, Nat.reduceBEq, Nat.reduceAdd, Nat.reduceSub, Nat.reduceMul, ↓reduceIte, reduceCtorEq, if_true, if_false, ite_true, ite_false, Int.reduceLT, Int.reduceLE, ptr, h1,  h2,  bld95,  Value.cells,  e1, rs_two (show Try.f51.results = #[.tmp 4,  .tmp 5] from rfl)]
  exact hQ σ1 σ.next ⟨v1, .inl ⟨rfl, rfl⟩, nofun⟩ (Nat.le_refl _) hS1
theorem rnew_bad {r : Int} (h51 : orc 51 = none) (hr : r < 0 ∨ 1024 < r) (hQ : Q (.tuple #[.pointer none, .int .i64 1], σ)) :
    W (acall Try.prog gs orc (n + 1) 51 [.int .i64 r, .bool ref] σ) Q := by
  rw [W_start (m := 16) (keep := []) Try.func51 rfl (by kernel_rfl) (by kernel_rfl) (by first | rfl | assumption | exact f.h51) (by rfl)]
  by_cases h1 : r < 0
  · simp (maxSteps := 2000000) only [B0, B1, B2, B3, B4, B5, B6, B7, Gd, extV, Nat.reduceLT, Nat.reduceEqDiff, Nat.reduceBEq, Nat.reduceAdd, Nat.reduceSub, Nat.reduceMul, ↓reduceIte, reduceCtorEq, if_true, if_false, ite_true, ite_false, Int.reduceLT, Int.reduceLE, ptr, h1, rs_two (show Try.f51.results = #[.tmp 4,  .tmp 5] from rfl)]
    exact hQ
  · have h2 : 1024 < r := by omega
    simp (maxSteps := 2000000) only [B0, B1, B2, B3, B4, B5, B6, B7, Gd, extV, Nat.reduceLT, Nat.reduceEqDiff, Nat.reduceBEq, Nat.reduceAdd, Nat.reduceSub, Nat.reduceMul, ↓reduceIte, reduceCtorEq, if_true, if_false, ite_true, ite_false, Int.reduceLT, Int.reduceLE, ptr, h1,  h2, rs_two (show Try.f51.results = #[.tmp 4,  .tmp 5] from rfl)]
    exact hQ
theorem erase_del {k : Nat} {y : E} (h : KS T) (hk : T[k]? = some y) : T.eraseIdx k = delE y.1 T := by
  obtain ⟨hlt, hy⟩ := List.getElem?_eq_some_iff.1 hk
  have e : T = T.take k ++ y :: T.drop (k + 1) := by rw [← hy, ← List.drop_eq_getElem_cons hlt, List.take_append_drop]
  have hnd := h.nd
  unfold ND at hnd
  rw [e, List.map_append, List.map_cons, List.nodup_append] at hnd
  obtain ⟨_, a2, a3⟩ := hnd
  have b1 : delE y.1 (T.take k) = T.take k := List.filter_eq_self.2 fun z hz => by
    have : z.1 ≠ y.1 := fun w => a3 z.1 (List.mem_map.2 ⟨z, hz, rfl⟩) y.1 (by simp) w
    simp [this]
  have b2 : delE y.1 (T.drop (k + 1)) = T.drop (k + 1) := List.filter_eq_self.2 fun z hz => by
    have : z.1 ≠ y.1 := fun w => (List.nodup_cons.1 a2).1 (List.mem_map.2 ⟨z, hz, w⟩)
    simp [this]
  have b3 : delE y.1 T = delE y.1 (T.take k) ++ delE y.1 (y :: T.drop (k + 1)) := by
    conv => lhs; rw [e]
    unfold delE; rw [List.filter_append]
  have b4 : delE y.1 (y :: T.drop (k + 1)) = delE y.1 (T.drop (k + 1)) := by unfold delE; rw [List.filter_cons_of_neg (by simp)]
  rw [b3, b1, b4, b2, List.eraseIdx_eq_take_drop_succ]
theorem rtake_run (f : FreeW orc) (h : RT σ q v T room ref) (hks : KS T) {k : Nat} {y : E} (hk : T[k]? = some y) (hn : T.length < n) (hN : T.length ≤ 1000000)
    (hQ : ∀ σ' v', RT σ' q v' (delE y.1 T) room ref → (∀ b ∈ blks v', σ.next ≤ b) → Same σ σ' [q] → Q (enV y, σ')) :
    W (acall Try.prog gs orc (n + 1) 124 [pt q, .int .i64 (k : Int)] σ) Q := by
  have hqn := h.obj.1
  have hvl := h.sl.lt
  obtain ⟨hklt, _⟩ := List.getElem?_eq_some_iff.1 hk
  obtain ⟨σ1, e1, hS1, v1, hn1⟩ := AE.oneVar σ 89 (encE zE) false
  have h1 := h.same hS1 nofun nofun
  obtain ⟨σ2, σ3, e2, t3, hS3, v3, hn3, _⟩ := AE.newVar σ1 89 (encE zE) (encE y) rfl (encEOk.single y)
  have h3 := h1.same hS3 nofun nofun
  obtain ⟨a, c, rfl, hc⟩ := h1.sl.len
  have hl1 := h1.ld0
  have hl3 := h3.ld0
  obtain ⟨b, o, cap, g, e, hcap, hbl, hr⟩ := h1.sl.at_ hk
  have ey := hr.ldCells encEOk hk
  injection e with e _ e9
  subst e e9
  simp only [encE] at e1 e2 t3 ey
  rw [W_start (m := 42) (keep := []) Try.func124 rfl (by kernel_rfl) (by kernel_rfl) (by first | rfl | assumption | exact f.h124) (by rfl)]
  simp (maxSteps := 2000000) only [B0, B1, B2, B3, B4, B5, B6, B7, Gd, extV, Nat.reduceLT, Nat.reduceEqDiff, Nat.reduceBEq, Nat.reduceAdd, Nat.reduceSub, Nat.reduceMul, ↓reduceIte, reduceCtorEq, if_true, if_false, ite_true, ite_false, Int.reduceLT, Int.reduceLE, ptr, allocV_zero Try.zero_89, Try.fa_95_0, Try.ld_87, Try.ia_87, Try.ld_89, Try.st_89, Try.len_87, Try.st_87, Value.cells,  e1,  hl1,  hklt,  ey,  e2,  t3,  List.size_toArray, rs_c (show Try.f124.results = #[.cell 4 89] from rfl)]
  refine W_inv (fun m fr σ' => ∃ (t : Tr Value) (i : Nat) (vo : Value), fr = ⟨42, t⟩ ∧ t.get 0 = some (pt q) ∧ t.get 1 = some (.int .i64 (k : Int)) ∧ t.get 4 = some (pt σ.next) ∧ t.get 5 = some (pt σ1.next) ∧ t.get 6 = some vo ∧ t.get 7 = some (.int .i64 (i : Int)) ∧ m + i = T.length ∧ SlAt σ' 89 4 encE vo ((T.take i).eraseIdx k) ∧ (∀ b ∈ blks vo, σ3.next ≤ b) ∧ Same σ3 σ' []) T.length (by omega)
    ⟨_, 0, .slice none 0 0, rfl, by simp [get_put, get_args], by simp [get_put, get_args], by simp [get_put], by simp [get_put], by simp [get_put], by simp [get_put], rfl, .inl ⟨rfl, by simp⟩, nofun, .refl _ _⟩ ?_
  rintro m fr σ4 ⟨t, i, vo, rfl, t0, t1, t4, t5, t6, t7, hm, hvo, hbo, hS4⟩
  have h4 := h3.same hS4 nofun nofun
  have hl4 := h4.ld0
  have n4 := hS4.next
  by_cases hlt : i < T.length
  · have hx := List.getElem?_eq_getElem hlt
    have htk : T.take (i + 1) = T.take i ++ [T[i]] := by rw [List.take_add_one, hx]; rfl
    generalize T[i] = x at hx htk
    have htl : (T.take i).length = i := by rw [List.length_take]; omega
    obtain ⟨b2, o2, cap2, g2, e, hcap2, hbl2, hr2⟩ := h4.sl.at_ hx
    injection e with e _ e9
    injection e with e
    injection e with e e8
    subst e e8 e9
    have ex := hr2.ldCells encEOk hx
    simp only [encE] at ex
    have hlt' : (i : Int) < (T.length : Int) := by omega
    have hw1 : IntKind.i64.wrap ((i : Int) + 1) = ((i + 1 : Nat) : Int) := wrap64 (by omega) (by omega)
    by_cases hik : i = k
    · subst hik
      have heq : (T.take (i + 1)).eraseIdx i = (T.take i).eraseIdx i := by
        rw [htk, List.eraseIdx_append_of_length_le (by omega), htl, Nat.sub_self]
        have e1 : (T.take i).eraseIdx i = T.take i := List.eraseIdx_of_length_le (by omega)
        rw [e1]
        simp
      simp (maxSteps := 2000000) only [B0, B1, B2, B3, B4, B5, B6, B7, Gd, extV, Nat.reduceLT, Nat.reduceEqDiff, Nat.reduceBEq, Nat.reduceAdd, Nat.reduceSub, Nat.reduceMul, ↓reduceIte, reduceCtorEq, if_true, if_false, ite_true, ite_false, Int.reduceLT, Int.reduceLE, ptr, allocV_zero Try.zero_89, Try.fa_95_0, Try.ld_87, Try.ia_87, Try.ld_89, Try.st_89, Try.len_87, Try.st_87, t0,  t1,  t4,  t5,  t6,  t7,  hl4,  hlt',  hw1,  KInv_normal, rs_c (show Try.f124.results = #[.cell 4 89] from rfl)]
      exact ⟨T.length - (i + 1), by omega, _, i + 1, vo, rfl, by simp [get_put, t0], by simp [get_put, t1], by simp [get_put, t4], by simp [get_put, t5], by simp [get_put, t6], by simp [get_put], by omega, by rw [heq]; exact hvo, hbo, hS4⟩
    · have hik' : ((i : Int) = (k : Int)) = False := eq_false (by omega)
      have heq : (T.take (i + 1)).eraseIdx k = (T.take i).eraseIdx k ++ [x] := by
        rw [htk]
        by_cases hlk : k < i
        · rw [List.eraseIdx_append_of_lt_length (by omega)]
        · rw [List.eraseIdx_of_length_le (by simp; omega), List.eraseIdx_of_length_le (by omega)]
      have hel : ((T.take i).eraseIdx k).length ≤ T.length := by have := List.length_eraseIdx_le (T.take i) k; omega
      obtain ⟨ao, co, rfl, hco⟩ := hvo.len
      obtain ⟨σ6, v7, σ7, hbs, hap, hv7, hS7, hb7, hS6, hn7⟩ := append_one encEOk Try.underlying87 Try.underlying87 Try.elem_89 rfl (by decide) hvo x (xv := .agg #[.string x.1, .int .i64 x.2.1, .int .i64 x.2.2.1, .bool x.2.2.2]) rfl (by omega)
      simp (maxSteps := 2000000) only [B0, B1, B2, B3, B4, B5, B6, B7, Gd, extV, Nat.reduceLT, Nat.reduceEqDiff, Nat.reduceBEq, Nat.reduceAdd, Nat.reduceSub, Nat.reduceMul, ↓reduceIte, reduceCtorEq, if_true, if_false, ite_true, ite_false, Int.reduceLT, Int.reduceLE, ptr, allocV_zero Try.zero_89, Try.fa_95_0, Try.ld_87, Try.ia_87, Try.ld_89, Try.st_89, Try.len_87, Try.st_87, t0,  t1,  t4,  t5,  t6,  t7,  hl4,  hlt',  hlt,  hik',  ex,  hbs,  hap,  hw1,  KInv_normal, rs_c (show Try.f124.results = #[.cell 4 89] from rfl)]
      rw [← heq] at hv7
      exact ⟨T.length - (i + 1), by omega, _, i + 1, v7, rfl, by simp [get_put, t0], by simp [get_put, t1], by simp [get_put, t4], by simp [get_put, t5], by simp [get_put], by simp [get_put], by omega, hv7, (fun b hb => by rcases hb7 b hb with w | w; exact hbo b w; omega), ((hS4.app hS7).old fun b hb => by simp only [List.nil_append] at hb; exact .inr (hbo b hb))⟩
  · have hlt' : ((i : Int) < (T.length : Int)) = False := eq_false (by omega)
    rw [List.take_of_length_le (show T.length ≤ i by omega), erase_del hks hk] at hvo
    have hqo : q ∉ blks vo := fun w => by have := hbo q w; omega
    obtain ⟨ao, co, rfl, hco⟩ := hvo.len
    obtain ⟨σ5, t5', h5, hS5, hn5⟩ := h4.put hvo hqo
    have v5 : VarAt σ5 σ1.next (encE y) := ((v3.same hS4 nofun).same hS5 (by simp; omega))
    have v15 : VarAt σ5 σ.next (encE zE) := (((v1.same hS3 nofun).same hS4 nofun).same hS5 (by simp; omega))
    have l5 : ldCells σ5 σ1.next 0 4 = some (encE y) := v5.ldCells
    obtain ⟨σ6, t6', v6, hS6, hn6⟩ := v15.store (vs' := encE y) rfl (encEOk.single y)
    have l6 : ldCells σ6 σ.next 0 4 = some (encE y) := v6.ldCells
    simp only [encE] at l5 t6' l6
    simp (maxSteps := 2000000) only [B0, B1, B2, B3, B4, B5, B6, B7, Gd, extV, Nat.reduceLT, Nat.reduceEqDiff, Nat.reduceBEq, Nat.reduceAdd, Nat.reduceSub, Nat.reduceMul, ↓reduceIte, reduceCtorEq, if_true, if_false, ite_true, ite_false, Int.reduceLT, Int.reduceLE, ptr, allocV_zero Try.zero_89, Try.fa_95_0, Try.ld_87, Try.ia_87, Try.ld_89, Try.st_89, Try.len_87, Try.st_87, t0,  t1,  t4,  t5,  t6,  t7,  hl4,  hlt',  Value.cells,  List.size_toArray,  t5',  l5,  t6',  l6, rs_c (show Try.f124.results = #[.cell 4 89] from rfl)]
    exact hQ σ6 _ (h5.same hS6 (by simp; omega) (fun b hb w => by have := hbo b hb; simp at w; omega)) (fun b hb => by have := hbo b hb; omega) (((((hS1.app hS3).app hS4).app hS5).app hS6).old fun b hb => by
      simp at hb
      rcases hb with hb | hb
      · exact .inl (by simp [hb])
      · exact .inr (by omega))
end Go.Proofs.Ytongccpmdndcgaa.Tab
end
/- The document's table in memory: first; entries laid in place. -/
section
set_option linter.all false
namespace Go.Proofs.Ytongccpmdndcgaa.Tab
open Go Go.AE Go.Proofs.Ytongccpmdndcgaa.Alm Go.Sort Go.Proofs
set_option maxRecDepth 100000
set_option maxHeartbeats 1000000
attribute [local irreducible] Go.AE.Tr.put Go.AE.Tr.get
variable {gs : List Nat} {orc : Orc} {n : Nat} {σ : AHeap} {Q : Value × AHeap → Prop}
variable {q room : Nat} {v : Value} {T : List E} {ref : Bool}

/-- What is best so far. -/
def Best (T : List E) (i : Nat) (k : Int) : Prop :=
  (k = -1 ∧ ∀ j z, j < i → T[j]? = some z → z.2.2.2 = true) ∨
  ∃ (kk : Nat) (y : E), k = (kk : Int) ∧ T[kk]? = some y ∧ y.2.2.2 = false ∧ kk < i ∧ ∀ j z, j < i → T[j]? = some z → z.2.2.2 = false → y.2.2.1 < z.2.2.1 ∨ (y.2.2.1 = z.2.2.1 ∧ kk ≤ j)
theorem best_end (h : KS T) {k : Int} (hb : Best T T.length k) : (k = -1 ∧ alS T = []) ∨ ∃ (kk : Nat) (y x : _) (l : List Al), k = (kk : Int) ∧ T[kk]? = some y ∧ y.2.2.2 = false ∧ alS T = x :: l ∧ alE y = x := by
  rcases hb with ⟨rfl, hb⟩ | ⟨kk, y, rfl, hy, hs, _, hb⟩
  · refine .inl ⟨rfl, ?_⟩
    cases hA : alS T with
    | nil => rfl
    | cons x l =>
      obtain ⟨z, hz, hzs, _⟩ := (alS_mem h).1 (show x ∈ alS T by rw [hA]; simp)
      obtain ⟨j, hj⟩ := List.mem_iff_getElem?.1 hz
      rw [hb j z (List.getElem?_eq_some_iff.1 hj).1 hj] at hzs
      cases hzs
  · have hm : alE y ∈ alS T := (alS_mem h).2 ⟨y, List.mem_of_getElem? hy, hs, rfl⟩
    cases hA : alS T with
    | nil => rw [hA] at hm; cases hm
    | cons x l =>
      refine .inr ⟨kk, y, x, l, rfl, hy, hs, rfl, ?_⟩
      rw [hA] at hm
      rcases List.mem_cons.1 hm with e | hm
      · exact e
      · exfalso
        have hsr := (alS_of h).srt
        rw [hA] at hsr
        have hlt := (List.pairwise_cons.1 hsr).1 _ hm
        obtain ⟨z, hz, hzs, rfl⟩ := (alS_mem h).1 (show x ∈ alS T by rw [hA]; simp)
        obtain ⟨j, hj⟩ := List.mem_iff_getElem?.1 hz
        have lj := List.getElem?_eq_some_iff.1 hj
        have lk := List.getElem?_eq_some_iff.1 hy
        have hbz := hb j z lj.1 hj hzs
        rw [lt_iff] at hlt
        unfold alE at hlt
        simp only at hlt
        rcases hbz with w | ⟨w1, w2⟩
        · rcases hlt with u | ⟨u, _⟩ <;> omega
        · rcases hlt with u | ⟨_, u⟩
          · omega
          · by_cases hjk : kk = j
            · subst hjk
              rw [hy] at hj
              rw [Option.some.inj hj, sLt_irr] at u
              cases u
            · have := List.pairwise_iff_getElem.1 h kk j lk.1 lj.1 (by omega)
              rw [lk.2, lj.2, sLt_asymm u] at this
              cases this
theorem first_run (f : FreeW orc) (h : RT σ q v T room ref) (hks : KS T) (hn : T.length < n) (hN : T.length ≤ 1048576)
    (h1 : alS T = [] → Q (.int .i64 (-1), σ)) (h2 : ∀ (j : Nat) (y : E) x l, T[j]? = some y → y.2.2.2 = false → alS T = x :: l → alE y = x → Q (.int .i64 (j : Int), σ)) : W (acall Try.prog gs orc (n + 1) 125 [pt q] σ) Q := by
  obtain ⟨a, c, rfl, hc⟩ := h.sl.len
  rw [W_start (m := 48) (keep := []) Try.func125 rfl (by kernel_rfl) (by kernel_rfl) (by first | rfl | assumption | exact f.h125) (by rfl)]
  simp (maxSteps := 2000000) only [B0, B1, B2, B3, B4, B5, B6, B7, Gd, extV, Nat.reduceLT, Nat.reduceEqDiff, Nat.reduceBEq, Nat.reduceAdd, Nat.reduceSub, Nat.reduceMul, ↓reduceIte, reduceCtorEq, if_true, if_false, ite_true, ite_false, Int.reduceLT, Int.reduceLE, ptr, Try.fa_95_0, Try.ld_87, Try.len_87, Try.ia_87, Try.fa_89_3, Try.ld_4, Try.fa_89_2, Try.ld_2, rs_tmp (show Try.f125.results = #[.tmp 2] from rfl)]
  refine W_inv (fun m fr σ' => σ' = σ ∧ ∃ (t : Tr Value) (i : Nat) (k : Int), fr = ⟨48, t⟩ ∧ t.get 0 = some (pt q) ∧ t.get 3 = some (.int .i64 k) ∧ t.get 4 = some (.int .i64 (i : Int)) ∧ m + i = T.length ∧ Best T i k) T.length (by omega)
    ⟨rfl, _, 0, -1, rfl, by simp [get_put, get_args], by simp [get_put], by simp [get_put], rfl, .inl ⟨rfl, fun j z hj => by omega⟩⟩ ?_
  rintro m fr σ1 ⟨rfl, t, i, k, rfl, t0, t3, t4, hm, hb⟩
  have hl0 := h.ld0
  by_cases hlt : i < T.length
  · have hx := List.getElem?_eq_getElem hlt
    generalize T[i] = x at hx
    obtain ⟨b, o, cap, g, e, hcap, hbl, hr⟩ := h.sl.at_ hx
    injection e with e _ e3
    subst e e3
    have x3 := hr.ld (j := 3) (v := .bool x.2.2.2) hx rfl
    have x2 := hr.ld (j := 2) (v := .int .i64 x.2.2.1) hx rfl
    have hlt' : (i : Int) < (T.length : Int) := by omega
    have hw1 : IntKind.i64.wrap ((i : Int) + 1) = ((i + 1 : Nat) : Int) := wrap64 (by omega) (by omega)
    have split : ∀ j (z : E), j < i + 1 → T[j]? = some z → j < i ∧ T[j]? = some z ∨ j = i ∧ z = x := fun j z hj hz => by
      by_cases e : j = i
      · subst e; rw [hx] at hz; exact .inr ⟨rfl, (Option.some.inj hz).symm⟩
      · exact .inl ⟨by omega, hz⟩
    cases hst : x.2.2.2 with
    | true =>
      rw [hst] at x3
      simp (maxSteps := 2000000) only [B0, B1, B2, B3, B4, B5, B6, B7, Gd, extV, Nat.reduceLT, Nat.reduceEqDiff, Nat.reduceBEq, Nat.reduceAdd, Nat.reduceSub, Nat.reduceMul, ↓reduceIte, reduceCtorEq, if_true, if_false, ite_true, ite_false, Int.reduceLT, Int.reduceLE, ptr, Try.fa_95_0, Try.ld_87, Try.len_87, Try.ia_87, Try.fa_89_3, Try.ld_4, Try.fa_89_2, Try.ld_2, t0,  t3,  t4,  hl0,  hlt',  hlt,  x3,  x2,  hw1,  KInv_normal, rs_tmp (show Try.f125.results = #[.tmp 2] from rfl)]
      refine ⟨T.length - (i + 1), by omega, _, i + 1, k, rfl, by simp [get_put, t0], by simp [get_put, t3], by simp [get_put], by omega, ?_⟩
      rcases hb with ⟨hk, hb⟩ | ⟨kk, y, hk, hy, hs, hki, hb⟩
      · refine .inl ⟨hk, fun j z hj hz => ?_⟩
        rcases split j z hj hz with ⟨u, w⟩ | ⟨_, rfl⟩
        · exact hb j z u w
        · exact hst
      · refine .inr ⟨kk, y, hk, hy, hs, by omega, fun j z hj hz hzs => ?_⟩
        rcases split j z hj hz with ⟨u, w⟩ | ⟨_, rfl⟩
        · exact hb j z u w hzs
        · rw [hst] at hzs; cases hzs
    | false =>
      rw [hst] at x3
      rcases hb with ⟨rfl, hb⟩ | ⟨kk, y, rfl, hy, hs, hki, hb⟩
      · simp (maxSteps := 2000000) only [B0, B1, B2, B3, B4, B5, B6, B7, Gd, extV, Nat.reduceLT, Nat.reduceEqDiff, Nat.reduceBEq, Nat.reduceAdd, Nat.reduceSub, Nat.reduceMul, ↓reduceIte, reduceCtorEq, if_true, if_false, ite_true, ite_false, Int.reduceLT, Int.reduceLE, ptr, Try.fa_95_0, Try.ld_87, Try.len_87, Try.ia_87, Try.fa_89_3, Try.ld_4, Try.fa_89_2, Try.ld_2, show ((-1 : Int) < 0) = True from eq_true (by omega), t0,  t3,  t4,  hl0,  hlt',  hlt,  x3,  x2,  hw1,  KInv_normal, rs_tmp (show Try.f125.results = #[.tmp 2] from rfl)]
        refine ⟨T.length - (i + 1), by omega, _, i + 1, (i : Int), rfl, by simp [get_put, t0], by simp [get_put], by simp [get_put], by omega, .inr ⟨i, x, rfl, hx, hst, by omega, fun j z hj hz hzs => ?_⟩⟩
        rcases split j z hj hz with ⟨u, w⟩ | ⟨rfl, rfl⟩
        · rw [hb j z u w] at hzs; cases hzs
        · exact .inr ⟨rfl, Nat.le_refl _⟩
      · have hkl := (List.getElem?_eq_some_iff.1 hy).1
        have y2 := hr.ld (j := 2) (v := .int .i64 y.2.2.1) hy rfl
        have hneg : ((kk : Int) < 0) = False := eq_false (by omega)
        by_cases hl : x.2.2.1 < y.2.2.1
        · have hl' : (x.2.2.1 < y.2.2.1) = True := eq_true hl
          simp (maxSteps := 2000000) only [B0, B1, B2, B3, B4, B5, B6, B7, Gd, extV, Nat.reduceLT, Nat.reduceEqDiff, Nat.reduceBEq, Nat.reduceAdd, Nat.reduceSub, Nat.reduceMul, ↓reduceIte, reduceCtorEq, if_true, if_false, ite_true, ite_false, Int.reduceLT, Int.reduceLE, ptr, Try.fa_95_0, Try.ld_87, Try.len_87, Try.ia_87, Try.fa_89_3, Try.ld_4, Try.fa_89_2, Try.ld_2, hneg,  hkl,  y2,  hl', t0,  t3,  t4,  hl0,  hlt',  hlt,  x3,  x2,  hw1,  KInv_normal, rs_tmp (show Try.f125.results = #[.tmp 2] from rfl)]
          refine ⟨T.length - (i + 1), by omega, _, i + 1, (i : Int), rfl, by simp [get_put, t0], by simp [get_put], by simp [get_put], by omega, .inr ⟨i, x, rfl, hx, hst, by omega, fun j z hj hz hzs => ?_⟩⟩
          rcases split j z hj hz with ⟨u, w⟩ | ⟨rfl, rfl⟩
          · have := hb j z u w hzs
            left
            rcases this with p | ⟨p, _⟩ <;> omega
          · exact .inr ⟨rfl, Nat.le_refl _⟩
        · have hl' : (x.2.2.1 < y.2.2.1) = False := eq_false hl
          simp (maxSteps := 2000000) only [B0, B1, B2, B3, B4, B5, B6, B7, Gd, extV, Nat.reduceLT, Nat.reduceEqDiff, Nat.reduceBEq, Nat.reduceAdd, Nat.reduceSub, Nat.reduceMul, ↓reduceIte, reduceCtorEq, if_true, if_false, ite_true, ite_false, Int.reduceLT, Int.reduceLE, ptr, Try.fa_95_0, Try.ld_87, Try.len_87, Try.ia_87, Try.fa_89_3, Try.ld_4, Try.fa_89_2, Try.ld_2, hneg,  hkl,  y2,  hl', t0,  t3,  t4,  hl0,  hlt',  hlt,  x3,  x2,  hw1,  KInv_normal, rs_tmp (show Try.f125.results = #[.tmp 2] from rfl)]
          refine ⟨T.length - (i + 1), by omega, _, i + 1, (kk : Int), rfl, by simp [get_put, t0], by simp [get_put, t3], by simp [get_put], by omega, .inr ⟨kk, y, rfl, hy, hs, by omega, fun j z hj hz hzs => ?_⟩⟩
          rcases split j z hj hz with ⟨u, w⟩ | ⟨rfl, rfl⟩
          · exact hb j z u w hzs
          · by_cases he : y.2.2.1 = z.2.2.1
            · exact .inr ⟨he, by omega⟩
            · exact .inl (by omega)
  · have hlt' : ((i : Int) < (T.length : Int)) = False := eq_false (by omega)
    have hie : i = T.length := by omega
    subst hie
    rcases best_end hks hb with ⟨rfl, hA⟩ | ⟨kk, y, x, l, rfl, hy, hs, hA, ha⟩
    · simp (maxSteps := 2000000) only [B0, B1, B2, B3, B4, B5, B6, B7, Gd, extV, Nat.reduceLT, Nat.reduceEqDiff, Nat.reduceBEq, Nat.reduceAdd, Nat.reduceSub, Nat.reduceMul, ↓reduceIte, reduceCtorEq, if_true, if_false, ite_true, ite_false, Int.reduceLT, Int.reduceLE, ptr, Try.fa_95_0, Try.ld_87, Try.len_87, Try.ia_87, Try.fa_89_3, Try.ld_4, Try.fa_89_2, Try.ld_2, t0,  t3,  t4,  hl0,  hlt', rs_tmp (show Try.f125.results = #[.tmp 2] from rfl)]
      exact h1 hA
    · simp (maxSteps := 2000000) only [B0, B1, B2, B3, B4, B5, B6, B7, Gd, extV, Nat.reduceLT, Nat.reduceEqDiff, Nat.reduceBEq, Nat.reduceAdd, Nat.reduceSub, Nat.reduceMul, ↓reduceIte, reduceCtorEq, if_true, if_false, ite_true, ite_false, Int.reduceLT, Int.reduceLE, ptr, Try.fa_95_0, Try.ld_87, Try.len_87, Try.ia_87, Try.fa_89_3, Try.ld_4, Try.fa_89_2, Try.ld_2, t0,  t3,  t4,  hl0,  hlt', rs_tmp (show Try.f125.results = #[.tmp 2] from rfl)]
      exact h2 kk y x l hy hs hA ha
/-- An entry laid in its place. -/
theorem RT.set {b o c len : Nat} (h : RT σ q (.slice (some ⟨b, o, none⟩) len c) T room ref) {i : Nat} (hi : i < T.length) (e : E) :
    ∃ σ', stCells σ b (o + i * 4) (encE e) = some σ' ∧ RT σ' q (.slice (some ⟨b, o, none⟩) len c) (T.set i e) room ref ∧ Same σ σ' [b] ∧ σ'.next = σ.next := by
  obtain ⟨b', o', cap, g, e1, hc, hb, hr⟩ := h.sl.at_ (List.getElem?_eq_getElem hi)
  injection e1 with e1 e2 e3
  injection e1 with e1
  injection e1 with e1 e4
  subst e1 e2 e3 e4
  obtain ⟨ob, p1, p2, _⟩ := hr.put encEOk (show i < c by omega) e
  have hS := Same.set σ b ob
  have hq : q ∉ [b] := fun w => h.qv (by simpa [blks] using w)
  refine ⟨σ.set b ob, p1, ⟨h.obj.same hS hq, .inr (.inr ⟨b, o, c, g, by rw [List.length_set], by rw [List.length_set]; exact hc, hb, p2 hi⟩), h.qv⟩, hS, rfl⟩
theorem set_put (h : KS T) {j : Nat} {y e : E} (hj : T[j]? = some y) (hk : y.1 = e.1) : T.set j e = putE e T := by
  obtain ⟨hlt, hy⟩ := List.getElem?_eq_some_iff.1 hj
  have hset : KS (T.set j e) := by
    unfold KS at *
    rw [List.pairwise_iff_getElem] at *
    intro a b ha hb hab
    rw [List.length_set] at ha hb
    have := h a b ha hb hab
    rw [List.getElem_set, List.getElem_set]
    split <;> split
    · omega
    · rename_i p _; subst p; rw [hy, hk] at this; exact this
    · rename_i _ p; subst p; rw [hy, hk] at this; exact this
    · exact this
  refine ks_unique hset (putE_ks h) ((List.perm_ext_iff_of_nodup ?_ ?_).2 fun x => ?_)
  · have := hset.nd
    unfold ND List.Nodup at this
    rw [List.pairwise_map] at this
    exact this.imp fun q e => q (by rw [e])
  · have := (putE_ks (e := e) h).nd
    unfold ND List.Nodup at this
    rw [List.pairwise_map] at this
    exact this.imp fun q e => q (by rw [e])
  · rw [mem_putE, List.mem_iff_getElem?]
    constructor
    · rintro ⟨i, hi⟩
      by_cases p : j = i
      · subst p
        rw [List.getElem?_set_self hlt] at hi
        exact .inl (Option.some.inj hi).symm
      · rw [List.getElem?_set_ne p] at hi
        refine .inr ⟨List.mem_of_getElem? hi, fun w => ?_⟩
        have li := List.getElem?_eq_some_iff.1 hi
        rcases Nat.lt_or_gt_of_ne p with u | u
        · have := List.pairwise_iff_getElem.1 h j i hlt li.1 u
          rw [hy, li.2, hk, w, sLt_irr] at this; cases this
        · have := List.pairwise_iff_getElem.1 h i j li.1 hlt u
          rw [hy, li.2, hk, w, sLt_irr] at this; cases this
    · rintro (rfl | ⟨hx, hne⟩)
      · exact ⟨j, by rw [List.getElem?_set_self hlt]⟩
      · obtain ⟨i, hi⟩ := List.mem_iff_getElem?.1 hx
        refine ⟨i, ?_⟩
        rw [List.getElem?_set_ne (fun p => ?_)]
        · exact hi
        · subst p; rw [hj] at hi; exact hne (by rw [← Option.some.inj hi, hk])
end Go.Proofs.Ytongccpmdndcgaa.Tab
end
/- The document's table in memory: lay. -/
section
set_option linter.all false
namespace Go.Proofs.Ytongccpmdndcgaa.Tab
open Go Go.AE Go.Proofs.Ytongccpmdndcgaa.Alm Go.Sort Go.Proofs
set_option maxRecDepth 100000
set_option maxHeartbeats 1000000
attribute [local irreducible] Go.AE.Tr.put Go.AE.Tr.get
variable {gs : List Nat} {orc : Orc} {n : Nat} {σ : AHeap} {Q : Value × AHeap → Prop}
variable {q room : Nat} {v : Value} {T : List E} {ref : Bool}

theorem insE_split {e : E} : ∀ {A B : List E}, (∀ z ∈ A, sLt z.1 e.1 = true) → (∀ y ∈ B, sLt e.1 y.1 = true) → insE e (A ++ B) = A ++ e :: B
  | [], [], _, _ => rfl
  | [], y :: B, _, h => by simp only [List.nil_append, insE, h y (by simp), if_true]
  | a :: A, B, h1, h2 => by
    have := sLt_asymm (h1 a (by simp))
    simp only [List.cons_append, insE, this, Bool.false_eq_true, if_false]
    rw [insE_split (fun z hz => h1 z (by simp [hz])) h2]
theorem bld89z : build' Try.prog 89 [] = some (.agg #[.string ⟨#[]⟩, .int .i64 0, .int .i64 0, .bool false]) := by kernel_rfl
theorem rlay_run (f : FreeW orc) (h : RT σ q v T room ref) (hks : KS T) (hl : T.length ≤ room) (hrm : room ≤ 1024) (e : E) (hn : 1100 < n)
    (hQ : ∀ σ' v', RT σ' q v' (layT T room ref e).1 room ref → (∀ b ∈ blks v', b ∈ blks v ∨ σ.next ≤ b) → Same σ σ' (q :: blks v) → Q (.tuple #[enV (layT T room ref e).2.1, .int .i64 (layT T room ref e).2.2], σ')) :
    W (acall Try.prog gs orc (n + 2) 123 [pt q, enV e] σ) Q := by
  have hqn := h.obj.1
  have hvl := h.sl.lt
  obtain ⟨σ1, e1, hS1, v1, hn1⟩ := AE.oneVar σ 89 (encE e) false
  obtain ⟨σ2, e2, hS2, v2, hn2⟩ := AE.oneVar σ1 89 (encE zE) false
  obtain ⟨σ3, σ4, e3, t4', hS4, v4, hn4, hS3⟩ := AE.newVar σ2 89 (encE zE) (encE zE) rfl (encEOk.single zE)
  rw [hn1] at v2 hn2
  rw [hn2] at v4 t4'
  have hS04 : Same σ σ4 [] := (hS1.trans hS2 nofun).trans hS4 nofun
  have h4 := h.same hS04 nofun nofun
  have w3 : VarAt σ4 σ.next (encE e) := (v1.same hS2 nofun).same hS4 nofun
  have w4 : VarAt σ4 (σ.next + 1) (encE zE) := v2.same hS4 nofun
  have c0 : ld σ4 σ.next 0 = some (.string e.1) := w3.ld rfl
  have cl : ldCells σ4 σ.next 0 4 = some (encE e) := w3.ldCells
  have zl : ldCells σ4 (σ.next + 2) 0 4 = some (encE zE) := v4.ldCells
  have hl4 := h4.ld0
  obtain ⟨a, c, ev, hc⟩ := h.sl.len
  rw [ev] at hl4
  simp only [encE] at e1 e2 e3 t4' zl cl
  rw [W_start (m := 117) (keep := [11]) Try.func123 rfl (by kernel_rfl) (by kernel_rfl) (by first | rfl | assumption | exact f.h123) (by rfl)]
  simp (maxSteps := 2000000) only [B0, B1, B2, B3, B4, B5, B6, B7, Gd, extV, Nat.reduceLT, Nat.reduceEqDiff, Nat.reduceBEq, Nat.reduceAdd, Nat.reduceSub, Nat.reduceMul, ↓reduceIte, reduceCtorEq, if_true, if_false, ite_true, ite_false, Int.reduceLT, Int.reduceLE, ptr, allocV_zero Try.zero_89, Try.st_89, Try.fa_89_0, Try.ld_9, callV_func Try.enters_57, Try.fa_95_0, Try.ld_87, Try.ld_89, Try.ia_87, Try.len_87, Try.fa_95_1, Try.ld_3, callV_func Try.enters_125, Try.fa_95_2, Try.ld_4, callV_func Try.enters_124, Try.st_87, hn1,  hn2,  enV,  Value.cells,  e1,  e2,  bld89z,  e3,  t4',  List.size_toArray,  c0, rs_ct (show Try.f123.results = #[.cell 4 89,  .tmp 5] from rfl)]
  refine rfind_run f h4 e.1 (by omega) (by omega) (fun hno => ?_) fun j y hj hy => ?_
  · have hge : ((0 : Int) ≤ (-1 : Int)) = False := eq_false (by omega)
    have hno' := getE_none.1 hno
    by_cases hroom : room ≤ T.length
    · have hroom' : ((room : Int) ≤ (T.length : Int)) = True := eq_true (by omega)
      have hcond : (getE e.1 T).isNone = true ∧ room ≤ T.length := ⟨by rw [hno]; rfl, hroom⟩
      obtain ⟨σ5, t5, v5, hS5, hn5⟩ := w4.store (vs' := encE zE) rfl (encEOk.single zE)
      have l5 : ldCells σ5 (σ.next + 1) 0 4 = some (encE zE) := v5.ldCells
      simp only [encE] at t5 l5
      have full : layT T room ref e = (T, zE, 7) → Q (.tuple #[.agg #[.string ⟨#[]⟩, .int .i64 0, .int .i64 0, .bool false], .int .i64 7], σ5) := fun hq => by
        have := hQ σ5 v
        rw [hq] at this
        exact this (h4.same hS5 (by simp; omega) (fun x hx w => by have := hvl x hx; simp at w; omega)) (fun x hx => .inl hx) ((hS04.app hS5).old fun x hx => by simp at hx; exact .inr (by omega))
      simp (maxSteps := 2000000) only [B0, B1, B2, B3, B4, B5, B6, B7, Gd, extV, Nat.reduceLT, Nat.reduceEqDiff, Nat.reduceBEq, Nat.reduceAdd, Nat.reduceSub, Nat.reduceMul, ↓reduceIte, reduceCtorEq, if_true, if_false, ite_true, ite_false, Int.reduceLT, Int.reduceLE, ptr, allocV_zero Try.zero_89, Try.st_89, Try.fa_89_0, Try.ld_9, callV_func Try.enters_57, Try.fa_95_0, Try.ld_87, Try.ld_89, Try.ia_87, Try.len_87, Try.fa_95_1, Try.ld_3, callV_func Try.enters_125, Try.fa_95_2, Try.ld_4, callV_func Try.enters_124, Try.st_87, hge,  hl4,  h4.ld1,  hroom', rs_ct (show Try.f123.results = #[.cell 4 89,  .tmp 5] from rfl)]
      refine first_run f h4 hks (by omega) (by omega) (fun hA => ?_) fun j y x l hj hys hA hya => ?_
      · have hlay : layT T room ref e = (T, zE, 7) := by unfold layT; rw [if_pos hcond, hA]
        by_cases hrf : ref = true
        · simp (maxSteps := 2000000) only [B0, B1, B2, B3, B4, B5, B6, B7, Gd, extV, Nat.reduceLT, Nat.reduceEqDiff, Nat.reduceBEq, Nat.reduceAdd, Nat.reduceSub, Nat.reduceMul, ↓reduceIte, reduceCtorEq, if_true, if_false, ite_true, ite_false, Int.reduceLT, Int.reduceLE, ptr, allocV_zero Try.zero_89, Try.st_89, Try.fa_89_0, Try.ld_9, callV_func Try.enters_57, Try.fa_95_0, Try.ld_87, Try.ld_89, Try.ia_87, Try.len_87, Try.fa_95_1, Try.ld_3, callV_func Try.enters_125, Try.fa_95_2, Try.ld_4, callV_func Try.enters_124, Try.st_87, hrf,  h4.ld2,  zl,  Value.cells,  List.size_toArray,  t5,  l5, rs_ct (show Try.f123.results = #[.cell 4 89,  .tmp 5] from rfl)]
          exact full hlay
        · have hrf' : ref = false := by simpa using hrf
          simp (maxSteps := 2000000) only [B0, B1, B2, B3, B4, B5, B6, B7, Gd, extV, Nat.reduceLT, Nat.reduceEqDiff, Nat.reduceBEq, Nat.reduceAdd, Nat.reduceSub, Nat.reduceMul, ↓reduceIte, reduceCtorEq, if_true, if_false, ite_true, ite_false, Int.reduceLT, Int.reduceLE, ptr, allocV_zero Try.zero_89, Try.st_89, Try.fa_89_0, Try.ld_9, callV_func Try.enters_57, Try.fa_95_0, Try.ld_87, Try.ld_89, Try.ia_87, Try.len_87, Try.fa_95_1, Try.ld_3, callV_func Try.enters_125, Try.fa_95_2, Try.ld_4, callV_func Try.enters_124, Try.st_87, hrf',  h4.ld2,  zl,  Value.cells,  List.size_toArray,  t5,  l5,  show ((-1 : Int) < 0) = True from eq_true (by omega), rs_ct (show Try.f123.results = #[.cell 4 89,  .tmp 5] from rfl)]
          exact full hlay
      · by_cases hrf : ref = true
        · have hlay : layT T room ref e = (T, zE, 7) := by unfold layT; rw [if_pos hcond, hA]; simp only [hrf, if_true]
          simp (maxSteps := 2000000) only [B0, B1, B2, B3, B4, B5, B6, B7, Gd, extV, Nat.reduceLT, Nat.reduceEqDiff, Nat.reduceBEq, Nat.reduceAdd, Nat.reduceSub, Nat.reduceMul, ↓reduceIte, reduceCtorEq, if_true, if_false, ite_true, ite_false, Int.reduceLT, Int.reduceLE, ptr, allocV_zero Try.zero_89, Try.st_89, Try.fa_89_0, Try.ld_9, callV_func Try.enters_57, Try.fa_95_0, Try.ld_87, Try.ld_89, Try.ia_87, Try.len_87, Try.fa_95_1, Try.ld_3, callV_func Try.enters_125, Try.fa_95_2, Try.ld_4, callV_func Try.enters_124, Try.st_87, hrf,  h4.ld2,  zl,  Value.cells,  List.size_toArray,  t5,  l5, rs_ct (show Try.f123.results = #[.cell 4 89,  .tmp 5] from rfl)]
          exact full hlay
        · have hrf' : ref = false := by simpa using hrf
          clear full t5 v5 hS5 hn5 l5 σ5
          have hxy : x.1 = y.1 := by rw [← hya]; rfl
          have hgy : getE x.1 T = some y := by rw [hxy]; exact getE_mem hks.nd (List.mem_of_getElem? hj)
          have hgy' : getE y.1 T = some y := getE_mem hks.nd (List.mem_of_getElem? hj)
          have hlay : layT T room ref e = (putE e (delE y.1 T), y, 0) := by unfold layT; rw [if_pos hcond, hA]; simp only [hxy, hgy', hrf', Option.getD_some, Bool.false_eq_true, if_false]
          have hneg : ((j : Int) < 0) = False := eq_false (by omega)
          simp (maxSteps := 2000000) only [B0, B1, B2, B3, B4, B5, B6, B7, Gd, extV, Nat.reduceLT, Nat.reduceEqDiff, Nat.reduceBEq, Nat.reduceAdd, Nat.reduceSub, Nat.reduceMul, ↓reduceIte, reduceCtorEq, if_true, if_false, ite_true, ite_false, Int.reduceLT, Int.reduceLE, ptr, allocV_zero Try.zero_89, Try.st_89, Try.fa_89_0, Try.ld_9, callV_func Try.enters_57, Try.fa_95_0, Try.ld_87, Try.ld_89, Try.ia_87, Try.len_87, Try.fa_95_1, Try.ld_3, callV_func Try.enters_125, Try.fa_95_2, Try.ld_4, callV_func Try.enters_124, Try.st_87, hrf',  h4.ld2,  hneg, rs_ct (show Try.f123.results = #[.cell 4 89,  .tmp 5] from rfl)]
          refine rtake_run f h4 hks hj (by omega) (by omega) fun σ5 v5 h5 hb5 hS5 => ?_
          have n5 := hS5.next
          obtain ⟨σ6, t6, v6, hS6, hn6⟩ := (v4.same hS5 (by simp; omega)).store (vs' := encE y) rfl (encEOk.single y)
          have h6 := h5.same hS6 (by simp; omega) (fun b hb w => by have := hb5 b hb; simp at w; omega)
          have v3q : VarAt σ6 σ.next (encE e) := (w3.same hS5 (by simp; omega)).same hS6 (by simp; omega)
          have w6 : VarAt σ6 (σ.next + 1) (encE zE) := (w4.same hS5 (by simp; omega)).same hS6 (by simp)
          have hksT1 : KS (delE y.1 T) := hks.del
          have hno2 : ∀ z ∈ delE y.1 T, z.1 ≠ e.1 := fun z hz => hno' z (mem_delE.1 hz).1
          have hk1 : ∀ b, b ∈ blks v5 → b ∈ blks v ∨ σ.next + 3 ≤ b := fun b hb => .inr (by have := hb5 b hb; omega)
          have hdl : (delE y.1 T).length ≤ T.length := List.length_filter_le _ _
          have hput : putE e (delE y.1 T) = insE e (delE y.1 T) := by unfold putE; rw [delE_not (getE_none.2 hno2)]
          rw [hlay, hput] at hQ
          have fin0 := hQ
          have hS06 : Same σ σ6 (q :: blks v) := ((hS04.app hS5).app hS6).old fun b hb => by
            simp at hb
            rcases hb with hb | hb
            · exact .inl (by simp [hb])
            · exact .inr (by omega)
          simp only [encE] at t6
          simp (maxSteps := 2000000) only [B0, B1, B2, B3, B4, B5, B6, B7, Gd, extV, Nat.reduceLT, Nat.reduceEqDiff, Nat.reduceBEq, Nat.reduceAdd, Nat.reduceSub, Nat.reduceMul, ↓reduceIte, reduceCtorEq, if_true, if_false, ite_true, ite_false, Int.reduceLT, Int.reduceLE, ptr, allocV_zero Try.zero_89, Try.st_89, Try.fa_89_0, Try.ld_9, callV_func Try.enters_57, Try.fa_95_0, Try.ld_87, Try.ld_89, Try.ia_87, Try.len_87, Try.fa_95_1, Try.ld_3, callV_func Try.enters_125, Try.fa_95_2, Try.ld_4, callV_func Try.enters_124, Try.st_87, enV,  t6,  Value.cells,  List.size_toArray, rs_ct (show Try.f123.results = #[.cell 4 89,  .tmp 5] from rfl)]
          obtain ⟨av, cv, ev1, hcv⟩ := h6.sl.len
          have ldv := h6.ld0
          have sl1 := h6.sl
          have qv1 := h6.qv
          have hkk : ∀ b ∈ blks (.slice av (delE y.1 T).length cv), b ∈ blks v ∨ σ.next + 3 ≤ b := fun b hb => hk1 b (by rw [ev1]; exact hb)
          rw [ev1] at ldv sl1 qv1
          obtain ⟨σ11, v12, σ12, hbs, hap, hv12, hS12, hb12, hS11, hn12⟩ := append_one encEOk Try.underlying87 Try.underlying87 Try.elem_89 rfl (by decide) sl1 e (xv := .agg #[.string e.1, .int .i64 e.2.1, .int .i64 e.2.2.1, .bool e.2.2.2]) rfl (by omega)
          have h11 := h6.same hS11 nofun nofun
          have ld11 := h11.ld0
          rw [ev1] at ld11
          have c11 : ldCells σ11 σ.next 0 4 = some (encE e) := (v3q.same hS11 nofun).ldCells
          have c10 : ldCells σ6 σ.next 0 4 = some (encE e) := v3q.ldCells
          have q12 : q ∉ blks v12 := fun w => by rcases hb12 q w with z | z; exact qv1 z; have := h6.obj.1; omega
          have o12 := h6.obj.same hS12 qv1
          obtain ⟨a12, k12, rfl, hk12⟩ := hv12.len
          obtain ⟨σ13, t13, ob13, hS13, hn13⟩ := o12.storeAt (i := 0) (by simp) (v := .slice a12 ((delE y.1 T) ++ [e]).length k12) rfl
          have h13 : RT σ13 q (.slice a12 ((delE y.1 T) ++ [e]).length k12) ((delE y.1 T) ++ [e]) room ref := ⟨ob13, hv12.same hS13 (fun b hb w => by simp at w; exact q12 (w ▸ hb)), q12⟩
          obtain ⟨b0, o0, cap0, g0, e0, hc0, hbl0, hr0⟩ := h13.sl.at_ (i := (delE y.1 T).length) (x := e) (by simp)
          injection e0 with e0 _ e9
          subst e0 e9
          have ld13 := h13.ld0
          have hlen : ((delE y.1 T) ++ [e]).length = (delE y.1 T).length + 1 := by simp
          have hw0 : IntKind.i64.wrap ((((delE y.1 T) ++ [e]).length : Int) - 1) = ((delE y.1 T).length : Int) := by rw [hlen, wrap64 (by omega) (by omega)]; omega
          have dq : σ.next ≠ q ∧ σ.next + 1 ≠ q ∧ σ.next + 2 ≠ q := by omega
          have hb0 : b0 ∈ blks v ∨ σ.next + 3 ≤ b0 := by
            rcases hb12 b0 (by simp [blks]) with z | z
            · exact hkk b0 z
            · exact .inr (by omega)
          have hvlt := h.sl.lt
          have db : b0 ≠ σ.next ∧ b0 ≠ σ.next + 1 ∧ b0 ≠ σ.next + 2 := by rcases hb0 with z | z; have := hvlt b0 z; omega; omega
          have hav : ∀ b ∈ blks (.slice av (delE y.1 T).length cv), b ≠ σ.next + 1 ∧ b ≠ σ.next + 2 := fun b hb => by rcases hkk b hb with z | z; have := hvlt b z; omega; omega
          have k6 : VarAt σ13 (σ.next + 2) (encE y) := (v6.same hS12 (fun w => (hav _ w).2 rfl)).same hS13 (by simp; omega)
          have k4 : VarAt σ13 (σ.next + 1) (encE zE) := (w6.same hS12 (fun w => (hav _ w).1 rfl)).same hS13 (by simp; omega)
          have hS013 : Same σ σ13 (q :: blks v) := ((hS06.app hS12).app hS13).old fun b hb => by
            simp only [List.mem_append, List.mem_singleton] at hb
            rcases hb with (hb | hb) | hb
            · exact .inl hb
            · rcases hkk b hb with z | z
              · exact .inl (by simp [z])
              · exact .inr (by omega)
            · exact .inl (by simp [hb])
          simp only [encE] at c11 c10
          refine Eq.mpr (W_retold (ps := [(6, 4)]) (by kernel_rfl) (by kernel_rfl) (by simp)) ?_
          simp (maxSteps := 2000000) only [B0, B1, B2, B3, B4, B5, B6, B7, Gd, extV, Nat.reduceLT, Nat.reduceEqDiff, Nat.reduceBEq, Nat.reduceAdd, Nat.reduceSub, Nat.reduceMul, ↓reduceIte, reduceCtorEq, if_true, if_false, ite_true, ite_false, Int.reduceLT, Int.reduceLE, ptr, allocV_zero Try.zero_89, Try.st_89, Try.fa_89_0, Try.ld_9, callV_func Try.enters_57, Try.fa_95_0, Try.ld_87, Try.ld_89, Try.ia_87, Try.len_87, Try.fa_95_1, Try.ld_3, callV_func Try.enters_125, Try.fa_95_2, Try.ld_4, callV_func Try.enters_124, Try.st_87, ldv,  ld11,  c11,  c10,  retells_eq,  hbs,  hap,  Value.cells,  List.size_toArray,  t13,  ld13,  hw0,  enV, rs_ct (show Try.f123.results = #[.cell 4 89,  .tmp 5] from rfl)]
          refine W_inv (fun m fr σ' => ∃ (t : Tr Value) (A B : List E), fr = ⟨117, t⟩ ∧ t.get 0 = some (pt q) ∧ t.get 4 = some (pt (σ.next + 1)) ∧ t.get 6 = some (pt (σ.next + 2)) ∧ t.get 8 = some (.int .i64 (A.length : Int)) ∧ m = A.length ∧ A ++ B = (delE y.1 T) ∧ (∀ y ∈ B, sLt e.1 y.1 = true) ∧ RT σ' q (.slice (some ⟨b0, o0, none⟩) ((delE y.1 T) ++ [e]).length k12) (A ++ e :: B) room ref ∧ Same σ13 σ' [b0]) (delE y.1 T).length (by omega)
            ⟨_, (delE y.1 T), [], rfl, by simp [get_put, get_args], by simp [get_put], by simp [get_put], by simp [get_put], rfl, by simp, nofun, h13, .refl _ _⟩ ?_
          rintro m fr σ14 ⟨t, A, B, rfl, t0, t4, t6, t8, rfl, hAB, hB, h14, hS14⟩
          have ld14 := h14.ld0
          have n14 := hS14.next
          have fin : (∀ z ∈ A, sLt z.1 e.1 = true) → ∃ σ15, stCells σ14 (σ.next + 1) 0 (encE y) = some σ15 ∧ ldCells σ14 (σ.next + 2) 0 4 = some (encE y) ∧ ldCells σ15 (σ.next + 1) 0 4 = some (encE y) ∧ Q (.tuple #[enV y, .int .i64 0], σ15) := fun hA => by
            have hins := insE_split hA hB
            rw [hAB] at hins
            have j6 := k6.same hS14 (by simp; omega)
            have j4 := k4.same hS14 (by simp; omega)
            obtain ⟨σ15, t15, j15, hS15, hn15⟩ := j4.store (vs' := encE y) rfl (encEOk.single _)
            have hSf : Same σ σ15 (q :: blks v) := ((hS013.app hS14).app hS15).old fun b hb => by
              simp only [List.mem_append, List.mem_singleton] at hb
              rcases hb with (hb | hb) | hb
              · exact .inl hb
              · subst hb; rcases hb0 with z | z; exact .inl (by simp [z]); exact .inr (by omega)
              · exact .inr (by omega)
            refine ⟨σ15, t15, j6.ldCells, j15.ldCells, fin0 σ15 (.slice (some ⟨b0, o0, none⟩) ((delE y.1 T) ++ [e]).length k12) ?_ (fun b hb => ?_) hSf⟩
            · rw [hins]
              exact h14.same hS15 (by simp; omega) (fun b hb w => by simp [blks] at hb w; omega)
            · simp [blks] at hb; subst hb; rcases hb0 with z | z; exact .inl z; exact .inr (by omega)
          by_cases hA0 : A = []
          · subst hA0
            obtain ⟨σ15, f1, f2, f3, f4⟩ := fin nofun
            simp only [encE] at f1 f2 f3
            have hz : ((0 : Int) < (([] : List E).length : Int)) = False := eq_false (by simp)
            simp (maxSteps := 2000000) only [B0, B1, B2, B3, B4, B5, B6, B7, Gd, extV, Nat.reduceLT, Nat.reduceEqDiff, Nat.reduceBEq, Nat.reduceAdd, Nat.reduceSub, Nat.reduceMul, ↓reduceIte, reduceCtorEq, if_true, if_false, ite_true, ite_false, Int.reduceLT, Int.reduceLE, ptr, allocV_zero Try.zero_89, Try.st_89, Try.fa_89_0, Try.ld_9, callV_func Try.enters_57, Try.fa_95_0, Try.ld_87, Try.ld_89, Try.ia_87, Try.len_87, Try.fa_95_1, Try.ld_3, callV_func Try.enters_125, Try.fa_95_2, Try.ld_4, callV_func Try.enters_124, Try.st_87, t0,  t4,  t6,  t8,  hz,  f1,  f2,  f3,  Value.cells,  List.size_toArray,  List.length_nil,  Int.lt_irrefl, rs_ct (show Try.f123.results = #[.cell 4 89,  .tmp 5] from rfl)]
            exact f4
          · obtain ⟨A', yy, rfl⟩ : ∃ A' yy, A = A' ++ [yy] := ⟨A.dropLast, A.getLast hA0, (List.dropLast_concat_getLast hA0).symm⟩
            have hal : (A' ++ [yy]).length = A'.length + 1 := by simp
            have hlT : A'.length + 1 ≤ (delE y.1 T).length := by have := congrArg List.length hAB; rw [List.length_append, hal] at this; omega
            obtain ⟨b2, o2, cap2, g2, e2, hc2, hbl2, hr2⟩ := h14.sl.at_ (i := A'.length + 1) (x := e) (by simp)
            injection e2 with e2 _ e9
            injection e2 with e2
            injection e2 with e2 e8
            subst e2 e8
            have iE : ((A' ++ [yy]) ++ e :: B)[A'.length + 1]? = some e := by simp
            have iY : ((A' ++ [yy]) ++ e :: B)[A'.length]? = some yy := by simp
            have p0 := hr2.ld (j := 0) (v := .string e.1) iE rfl
            have p1 := hr2.ld (j := 0) (v := .string yy.1) iY rfl
            have pl := hr2.ldCells encEOk iE
            have ql := hr2.ldCells encEOk iY
            simp only [Nat.add_zero] at p0 p1
            have hpos : ((0 : Int) < ((A'.length + 1 : Nat) : Int)) = True := eq_true (by omega)
            have hw2 : IntKind.i64.wrap (((A'.length + 1 : Nat) : Int) - 1) = (A'.length : Int) := by rw [wrap64 (by omega) (by omega)]; omega
            have l1 : A'.length + 1 < ((delE y.1 T) ++ [e]).length := by omega
            have l0 : A'.length < ((delE y.1 T) ++ [e]).length := by omega
            rw [hal] at t8
            cases hs : sLt e.1 yy.1 with
            | true =>
              obtain ⟨σ15, t15, h15, hS15, hn15⟩ := h14.set (i := A'.length + 1) (by simp) yy
              obtain ⟨σ16, t16, h16, hS16, hn16⟩ := h15.set (i := A'.length) (by simp) e
              have hset : ((((A' ++ [yy]) ++ e :: B).set (A'.length + 1) yy).set A'.length e) = A' ++ e :: (yy :: B) := by simp
              rw [hset] at h16
              simp only [encE] at t15 t16 pl ql
              simp (maxSteps := 2000000) only [B0, B1, B2, B3, B4, B5, B6, B7, Gd, extV, Nat.reduceLT, Nat.reduceEqDiff, Nat.reduceBEq, Nat.reduceAdd, Nat.reduceSub, Nat.reduceMul, ↓reduceIte, reduceCtorEq, if_true, if_false, ite_true, ite_false, Int.reduceLT, Int.reduceLE, ptr, allocV_zero Try.zero_89, Try.st_89, Try.fa_89_0, Try.ld_9, callV_func Try.enters_57, Try.fa_95_0, Try.ld_87, Try.ld_89, Try.ia_87, Try.len_87, Try.fa_95_1, Try.ld_3, callV_func Try.enters_125, Try.fa_95_2, Try.ld_4, callV_func Try.enters_124, Try.st_87, t0,  t4,  t6,  t8,  hpos,  ld14,  l1,  l0,  hw2,  p0,  p1,  hs,  pl,  ql,  Value.cells,  List.size_toArray,  t15,  t16,  KInv_normal, rs_ct (show Try.f123.results = #[.cell 4 89,  .tmp 5] from rfl)]
              exact ⟨A'.length, by omega, _, A', yy :: B, rfl, by simp [get_put, t0], by simp [get_put, t4], by simp [get_put, t6], by simp [get_put], rfl, by rw [← hAB]; simp, (fun z hz => by rcases List.mem_cons.1 hz with rfl | hz; exact hs; exact hB z hz), h16, ((hS14.app hS15).app hS16).old fun b hb => by simp at hb; exact .inl (by simp [hb])⟩
            | false =>
              have hye : sLt yy.1 e.1 = true := by
                rcases sLt_tri yy.1 e.1 with u | u | u
                · exact u
                · exact absurd u (hno2 yy (by rw [← hAB]; simp))
                · rw [u] at hs; cases hs
              have hkA : KS ((A' ++ [yy]) ++ B) := by rw [hAB]; exact hksT1
              obtain ⟨σ15, f1, f2, f3, f4⟩ := fin fun z hz => by
                rcases List.mem_append.1 hz with hz | hz
                · unfold KS at hkA
                  have := (List.pairwise_append.1 (List.pairwise_append.1 hkA).1).2.2 z hz yy (by simp)
                  exact sLt_trans this hye
                · simp at hz; subst hz; exact hye
              simp only [encE] at f1 f2 f3
              simp (maxSteps := 2000000) only [B0, B1, B2, B3, B4, B5, B6, B7, Gd, extV, Nat.reduceLT, Nat.reduceEqDiff, Nat.reduceBEq, Nat.reduceAdd, Nat.reduceSub, Nat.reduceMul, ↓reduceIte, reduceCtorEq, if_true, if_false, ite_true, ite_false, Int.reduceLT, Int.reduceLE, ptr, allocV_zero Try.zero_89, Try.st_89, Try.fa_89_0, Try.ld_9, callV_func Try.enters_57, Try.fa_95_0, Try.ld_87, Try.ld_89, Try.ia_87, Try.len_87, Try.fa_95_1, Try.ld_3, callV_func Try.enters_125, Try.fa_95_2, Try.ld_4, callV_func Try.enters_124, Try.st_87, t0,  t4,  t6,  t8,  hpos,  ld14,  l1,  l0,  hw2,  p0,  p1,  hs,  f1,  f2,  f3,  Value.cells,  List.size_toArray, rs_ct (show Try.f123.results = #[.cell 4 89,  .tmp 5] from rfl)]
              exact f4
    · have hroom' : ((room : Int) ≤ (T.length : Int)) = False := eq_false (by omega)
      have hlay : layT T room ref e = (putE e T, zE, 0) := by unfold layT; rw [if_neg (fun w => hroom w.2)]
      have hput : putE e T = insE e T := by unfold putE; rw [delE_not hno]
      rw [hlay, hput] at hQ
      have fin0 := hQ
      have v3q := w3
      have hksT1 := hks
      have hk1 : ∀ b, b ∈ blks v → b ∈ blks v ∨ σ.next + 3 ≤ b := fun b hb => .inl hb
      have hS04' : Same σ σ4 (q :: blks v) := hS04.mono nofun
      simp (maxSteps := 2000000) only [B0, B1, B2, B3, B4, B5, B6, B7, Gd, extV, Nat.reduceLT, Nat.reduceEqDiff, Nat.reduceBEq, Nat.reduceAdd, Nat.reduceSub, Nat.reduceMul, ↓reduceIte, reduceCtorEq, if_true, if_false, ite_true, ite_false, Int.reduceLT, Int.reduceLE, ptr, allocV_zero Try.zero_89, Try.st_89, Try.fa_89_0, Try.ld_9, callV_func Try.enters_57, Try.fa_95_0, Try.ld_87, Try.ld_89, Try.ia_87, Try.len_87, Try.fa_95_1, Try.ld_3, callV_func Try.enters_125, Try.fa_95_2, Try.ld_4, callV_func Try.enters_124, Try.st_87, hge,  hl4,  h4.ld1,  hroom', rs_ct (show Try.f123.results = #[.cell 4 89,  .tmp 5] from rfl)]
      obtain ⟨av, cv, ev1, hcv⟩ := h4.sl.len
      have ldv := h4.ld0
      have sl1 := h4.sl
      have qv1 := h4.qv
      have hkk : ∀ b ∈ blks (.slice av T.length cv), b ∈ blks v ∨ σ.next + 3 ≤ b := fun b hb => hk1 b (by rw [ev1]; exact hb)
      rw [ev1] at ldv sl1 qv1
      obtain ⟨σ11, v12, σ12, hbs, hap, hv12, hS12, hb12, hS11, hn12⟩ := append_one encEOk Try.underlying87 Try.underlying87 Try.elem_89 rfl (by decide) sl1 e (xv := .agg #[.string e.1, .int .i64 e.2.1, .int .i64 e.2.2.1, .bool e.2.2.2]) rfl (by omega)
      have h11 := h4.same hS11 nofun nofun
      have ld11 := h11.ld0
      rw [ev1] at ld11
      have c11 : ldCells σ11 σ.next 0 4 = some (encE e) := (v3q.same hS11 nofun).ldCells
      have c10 : ldCells σ4 σ.next 0 4 = some (encE e) := v3q.ldCells
      have q12 : q ∉ blks v12 := fun w => by rcases hb12 q w with z | z; exact qv1 z; have := h4.obj.1; omega
      have o12 := h4.obj.same hS12 qv1
      obtain ⟨a12, k12, rfl, hk12⟩ := hv12.len
      obtain ⟨σ13, t13, ob13, hS13, hn13⟩ := o12.storeAt (i := 0) (by simp) (v := .slice a12 (T ++ [e]).length k12) rfl
      have h13 : RT σ13 q (.slice a12 (T ++ [e]).length k12) (T ++ [e]) room ref := ⟨ob13, hv12.same hS13 (fun b hb w => by simp at w; exact q12 (w ▸ hb)), q12⟩
      obtain ⟨b0, o0, cap0, g0, e0, hc0, hbl0, hr0⟩ := h13.sl.at_ (i := T.length) (x := e) (by simp)
      injection e0 with e0 _ e9
      subst e0 e9
      have ld13 := h13.ld0
      have hlen : (T ++ [e]).length = T.length + 1 := by simp
      have hw0 : IntKind.i64.wrap (((T ++ [e]).length : Int) - 1) = (T.length : Int) := by rw [hlen, wrap64 (by omega) (by omega)]; omega
      have dq : σ.next ≠ q ∧ σ.next + 1 ≠ q ∧ σ.next + 2 ≠ q := by omega
      have hb0 : b0 ∈ blks v ∨ σ.next + 3 ≤ b0 := by
        rcases hb12 b0 (by simp [blks]) with z | z
        · exact hkk b0 z
        · exact .inr (by omega)
      have hvlt := h.sl.lt
      have db : b0 ≠ σ.next ∧ b0 ≠ σ.next + 1 ∧ b0 ≠ σ.next + 2 := by rcases hb0 with z | z; have := hvlt b0 z; omega; omega
      have hav : ∀ b ∈ blks (.slice av T.length cv), b ≠ σ.next + 1 ∧ b ≠ σ.next + 2 := fun b hb => by rcases hkk b hb with z | z; have := hvlt b z; omega; omega
      have k6 : VarAt σ13 (σ.next + 2) (encE zE) := (v4.same hS12 (fun w => (hav _ w).2 rfl)).same hS13 (by simp; omega)
      have k4 : VarAt σ13 (σ.next + 1) (encE zE) := (w4.same hS12 (fun w => (hav _ w).1 rfl)).same hS13 (by simp; omega)
      have hS013 : Same σ σ13 (q :: blks v) := ((hS04'.app hS12).app hS13).old fun b hb => by
        simp only [List.mem_append, List.mem_singleton] at hb
        rcases hb with (hb | hb) | hb
        · exact .inl hb
        · rcases hkk b hb with z | z
          · exact .inl (by simp [z])
          · exact .inr (by omega)
        · exact .inl (by simp [hb])
      simp only [encE] at c11 c10
      refine Eq.mpr (W_retold (ps := [(6, 4)]) (by kernel_rfl) (by kernel_rfl) (by simp)) ?_
      simp (maxSteps := 2000000) only [B0, B1, B2, B3, B4, B5, B6, B7, Gd, extV, Nat.reduceLT, Nat.reduceEqDiff, Nat.reduceBEq, Nat.reduceAdd, Nat.reduceSub, Nat.reduceMul, ↓reduceIte, reduceCtorEq, if_true, if_false, ite_true, ite_false, Int.reduceLT, Int.reduceLE, ptr, allocV_zero Try.zero_89, Try.st_89, Try.fa_89_0, Try.ld_9, callV_func Try.enters_57, Try.fa_95_0, Try.ld_87, Try.ld_89, Try.ia_87, Try.len_87, Try.fa_95_1, Try.ld_3, callV_func Try.enters_125, Try.fa_95_2, Try.ld_4, callV_func Try.enters_124, Try.st_87, ldv,  ld11,  c11,  c10,  retells_eq,  hbs,  hap,  Value.cells,  List.size_toArray,  t13,  ld13,  hw0,  enV, rs_ct (show Try.f123.results = #[.cell 4 89,  .tmp 5] from rfl)]
      refine W_inv (fun m fr σ' => ∃ (t : Tr Value) (A B : List E), fr = ⟨117, t⟩ ∧ t.get 0 = some (pt q) ∧ t.get 4 = some (pt (σ.next + 1)) ∧ t.get 6 = some (pt (σ.next + 2)) ∧ t.get 8 = some (.int .i64 (A.length : Int)) ∧ m = A.length ∧ A ++ B = T ∧ (∀ y ∈ B, sLt e.1 y.1 = true) ∧ RT σ' q (.slice (some ⟨b0, o0, none⟩) (T ++ [e]).length k12) (A ++ e :: B) room ref ∧ Same σ13 σ' [b0]) T.length (by omega)
        ⟨_, T, [], rfl, by simp [get_put, get_args], by simp [get_put], by simp [get_put], by simp [get_put], rfl, by simp, nofun, h13, .refl _ _⟩ ?_
      rintro m fr σ14 ⟨t, A, B, rfl, t0, t4, t6, t8, rfl, hAB, hB, h14, hS14⟩
      have ld14 := h14.ld0
      have n14 := hS14.next
      have fin : (∀ z ∈ A, sLt z.1 e.1 = true) → ∃ σ15, stCells σ14 (σ.next + 1) 0 (encE zE) = some σ15 ∧ ldCells σ14 (σ.next + 2) 0 4 = some (encE zE) ∧ ldCells σ15 (σ.next + 1) 0 4 = some (encE zE) ∧ Q (.tuple #[enV zE, .int .i64 0], σ15) := fun hA => by
        have hins := insE_split hA hB
        rw [hAB] at hins
        have j6 := k6.same hS14 (by simp; omega)
        have j4 := k4.same hS14 (by simp; omega)
        obtain ⟨σ15, t15, j15, hS15, hn15⟩ := j4.store (vs' := encE zE) rfl (encEOk.single _)
        have hSf : Same σ σ15 (q :: blks v) := ((hS013.app hS14).app hS15).old fun b hb => by
          simp only [List.mem_append, List.mem_singleton] at hb
          rcases hb with (hb | hb) | hb
          · exact .inl hb
          · subst hb; rcases hb0 with z | z; exact .inl (by simp [z]); exact .inr (by omega)
          · exact .inr (by omega)
        refine ⟨σ15, t15, j6.ldCells, j15.ldCells, fin0 σ15 (.slice (some ⟨b0, o0, none⟩) (T ++ [e]).length k12) ?_ (fun b hb => ?_) hSf⟩
        · rw [hins]
          exact h14.same hS15 (by simp; omega) (fun b hb w => by simp [blks] at hb w; omega)
        · simp [blks] at hb; subst hb; rcases hb0 with z | z; exact .inl z; exact .inr (by omega)
      by_cases hA0 : A = []
      · subst hA0
        obtain ⟨σ15, f1, f2, f3, f4⟩ := fin nofun
        simp only [encE] at f1 f2 f3
        have hz : ((0 : Int) < (([] : List E).length : Int)) = False := eq_false (by simp)
        simp (maxSteps := 2000000) only [B0, B1, B2, B3, B4, B5, B6, B7, Gd, extV, Nat.reduceLT, Nat.reduceEqDiff, Nat.reduceBEq, Nat.reduceAdd, Nat.reduceSub, Nat.reduceMul, ↓reduceIte, reduceCtorEq, if_true, if_false, ite_true, ite_false, Int.reduceLT, Int.reduceLE, ptr, allocV_zero Try.zero_89, Try.st_89, Try.fa_89_0, Try.ld_9, callV_func Try.enters_57, Try.fa_95_0, Try.ld_87, Try.ld_89, Try.ia_87, Try.len_87, Try.fa_95_1, Try.ld_3, callV_func Try.enters_125, Try.fa_95_2, Try.ld_4, callV_func Try.enters_124, Try.st_87, t0,  t4,  t6,  t8,  hz,  f1,  f2,  f3,  Value.cells,  List.size_toArray,  List.length_nil,  Int.lt_irrefl, rs_ct (show Try.f123.results = #[.cell 4 89,  .tmp 5] from rfl)]
        exact f4
      · obtain ⟨A', yy, rfl⟩ : ∃ A' yy, A = A' ++ [yy] := ⟨A.dropLast, A.getLast hA0, (List.dropLast_concat_getLast hA0).symm⟩
        have hal : (A' ++ [yy]).length = A'.length + 1 := by simp
        have hlT : A'.length + 1 ≤ T.length := by have := congrArg List.length hAB; rw [List.length_append, hal] at this; omega
        obtain ⟨b2, o2, cap2, g2, e2, hc2, hbl2, hr2⟩ := h14.sl.at_ (i := A'.length + 1) (x := e) (by simp)
        injection e2 with e2 _ e9
        injection e2 with e2
        injection e2 with e2 e8
        subst e2 e8
        have iE : ((A' ++ [yy]) ++ e :: B)[A'.length + 1]? = some e := by simp
        have iY : ((A' ++ [yy]) ++ e :: B)[A'.length]? = some yy := by simp
        have p0 := hr2.ld (j := 0) (v := .string e.1) iE rfl
        have p1 := hr2.ld (j := 0) (v := .string yy.1) iY rfl
        have pl := hr2.ldCells encEOk iE
        have ql := hr2.ldCells encEOk iY
        simp only [Nat.add_zero] at p0 p1
        have hpos : ((0 : Int) < ((A'.length + 1 : Nat) : Int)) = True := eq_true (by omega)
        have hw2 : IntKind.i64.wrap (((A'.length + 1 : Nat) : Int) - 1) = (A'.length : Int) := by rw [wrap64 (by omega) (by omega)]; omega
        have l1 : A'.length + 1 < (T ++ [e]).length := by omega
        have l0 : A'.length < (T ++ [e]).length := by omega
        rw [hal] at t8
        cases hs : sLt e.1 yy.1 with
        | true =>
          obtain ⟨σ15, t15, h15, hS15, hn15⟩ := h14.set (i := A'.length + 1) (by simp) yy
          obtain ⟨σ16, t16, h16, hS16, hn16⟩ := h15.set (i := A'.length) (by simp) e
          have hset : ((((A' ++ [yy]) ++ e :: B).set (A'.length + 1) yy).set A'.length e) = A' ++ e :: (yy :: B) := by simp
          rw [hset] at h16
          simp only [encE] at t15 t16 pl ql
          simp (maxSteps := 2000000) only [B0, B1, B2, B3, B4, B5, B6, B7, Gd, extV, Nat.reduceLT, Nat.reduceEqDiff, Nat.reduceBEq, Nat.reduceAdd, Nat.reduceSub, Nat.reduceMul, ↓reduceIte, reduceCtorEq, if_true, if_false, ite_true, ite_false, Int.reduceLT, Int.reduceLE, ptr, allocV_zero Try.zero_89, Try.st_89, Try.fa_89_0, Try.ld_9, callV_func Try.enters_57, Try.fa_95_0, Try.ld_87, Try.ld_89, Try.ia_87, Try.len_87, Try.fa_95_1, Try.ld_3, callV_func Try.enters_125, Try.fa_95_2, Try.ld_4, callV_func Try.enters_124, Try.st_87, t0,  t4,  t6,  t8,  hpos,  ld14,  l1,  l0,  hw2,  p0,  p1,  hs,  pl,  ql,  Value.cells,  List.size_toArray,  t15,  t16,  KInv_normal, rs_ct (show Try.f123.results = #[.cell 4 89,  .tmp 5] from rfl)]
          exact ⟨A'.length, by omega, _, A', yy :: B, rfl, by simp [get_put, t0], by simp [get_put, t4], by simp [get_put, t6], by simp [get_put], rfl, by rw [← hAB]; simp, (fun z hz => by rcases List.mem_cons.1 hz with rfl | hz; exact hs; exact hB z hz), h16, ((hS14.app hS15).app hS16).old fun b hb => by simp at hb; exact .inl (by simp [hb])⟩
        | false =>
          have hye : sLt yy.1 e.1 = true := by
            rcases sLt_tri yy.1 e.1 with u | u | u
            · exact u
            · exact absurd u (hno' yy (by rw [← hAB]; simp))
            · rw [u] at hs; cases hs
          have hkA : KS ((A' ++ [yy]) ++ B) := by rw [hAB]; exact hksT1
          obtain ⟨σ15, f1, f2, f3, f4⟩ := fin fun z hz => by
            rcases List.mem_append.1 hz with hz | hz
            · unfold KS at hkA
              have := (List.pairwise_append.1 (List.pairwise_append.1 hkA).1).2.2 z hz yy (by simp)
              exact sLt_trans this hye
            · simp at hz; subst hz; exact hye
          simp only [encE] at f1 f2 f3
          simp (maxSteps := 2000000) only [B0, B1, B2, B3, B4, B5, B6, B7, Gd, extV, Nat.reduceLT, Nat.reduceEqDiff, Nat.reduceBEq, Nat.reduceAdd, Nat.reduceSub, Nat.reduceMul, ↓reduceIte, reduceCtorEq, if_true, if_false, ite_true, ite_false, Int.reduceLT, Int.reduceLE, ptr, allocV_zero Try.zero_89, Try.st_89, Try.fa_89_0, Try.ld_9, callV_func Try.enters_57, Try.fa_95_0, Try.ld_87, Try.ld_89, Try.ia_87, Try.len_87, Try.fa_95_1, Try.ld_3, callV_func Try.enters_125, Try.fa_95_2, Try.ld_4, callV_func Try.enters_124, Try.st_87, t0,  t4,  t6,  t8,  hpos,  ld14,  l1,  l0,  hw2,  p0,  p1,  hs,  f1,  f2,  f3,  Value.cells,  List.size_toArray, rs_ct (show Try.f123.results = #[.cell 4 89,  .tmp 5] from rfl)]
          exact f4
  · have hjl := (List.getElem?_eq_some_iff.1 hj).1
    have hge : ((0 : Int) ≤ (j : Int)) = True := eq_true (by omega)
    obtain ⟨b, o, cap, g, e5, hcap, hbl, hr⟩ := h4.sl.at_ hj
    rw [ev] at e5
    injection e5 with e5 _ e9
    subst e5 e9
    subst ev
    obtain ⟨σ5, t5, h5, hS5, hn5⟩ := h4.set hjl e
    rw [set_put hks hj hy] at h5
    have hbv := hvl b (by simp [blks])
    have z5 : ldCells σ5 (σ.next + 2) 0 4 = some (encE zE) := (v4.same hS5 (by simp; omega)).ldCells
    obtain ⟨σ6, t6, v6, hS6, hn6⟩ := (w4.same hS5 (by simp; omega)).store (vs' := encE zE) rfl (encEOk.single zE)
    have l6 : ldCells σ6 (σ.next + 1) 0 4 = some (encE zE) := v6.ldCells
    have hlay : layT T room ref e = (putE e T, zE, 0) := by
      unfold layT
      rw [if_neg]
      have : getE e.1 T = some y := by rw [← hy]; exact getE_mem hks.nd (List.mem_of_getElem? hj)
      rw [this]; simp
    rw [hlay] at hQ
    simp only [encE] at t5 z5 t6 l6
    simp (maxSteps := 2000000) only [B0, B1, B2, B3, B4, B5, B6, B7, Gd, extV, Nat.reduceLT, Nat.reduceEqDiff, Nat.reduceBEq, Nat.reduceAdd, Nat.reduceSub, Nat.reduceMul, ↓reduceIte, reduceCtorEq, if_true, if_false, ite_true, ite_false, Int.reduceLT, Int.reduceLE, ptr, allocV_zero Try.zero_89, Try.st_89, Try.fa_89_0, Try.ld_9, callV_func Try.enters_57, Try.fa_95_0, Try.ld_87, Try.ld_89, Try.ia_87, Try.len_87, Try.fa_95_1, Try.ld_3, callV_func Try.enters_125, Try.fa_95_2, Try.ld_4, callV_func Try.enters_124, Try.st_87, hge,  hl4,  cl,  hjl,  Value.cells,  List.size_toArray,  t5,  z5,  t6,  l6, rs_ct (show Try.f123.results = #[.cell 4 89,  .tmp 5] from rfl)]
    exact hQ σ6 _ (h5.same hS6 (by simp; omega) (fun x hx w => by simp [blks] at hx w; omega)) (fun x hx => .inl hx) (((hS04.app hS5).app hS6).old fun x hx => by
      simp at hx
      rcases hx with hx | hx
      · exact .inl (by simp [blks, hx])
      · exact .inr (by omega))
end Go.Proofs.Ytongccpmdndcgaa.Tab
end
/- The document's table in memory: Put, Fix, Touch, Drop. -/
section
set_option linter.all false
namespace Go.Proofs.Ytongccpmdndcgaa.Tab
open Go Go.AE Go.Proofs.Ytongccpmdndcgaa.Alm Go.Sort Go.Proofs
set_option maxRecDepth 100000
set_option maxHeartbeats 1000000
attribute [local irreducible] Go.AE.Tr.put Go.AE.Tr.get
variable {gs : List Nat} {orc : Orc} {n : Nat} {σ : AHeap} {Q : Value × AHeap → Prop}
variable {q room : Nat} {v : Value} {T : List E} {ref : Bool}

theorem bld89 {a : ByteArray} {b c : Int} : build' Try.prog 89 [(0, .string a), (1, .int .i64 b), (2, .int .i64 c)] = some (.agg #[.string a, .int .i64 b, .int .i64 c, .bool false]) := by kernel_rfl
theorem bld89t {a : ByteArray} {b : Int} : build' Try.prog 89 [(0, .string a), (1, .int .i64 b), (3, .bool true)] = some (.agg #[.string a, .int .i64 b, .int .i64 0, .bool true]) := by kernel_rfl
theorem rput_run (f : FreeW orc) (h : RT σ q v T room ref) (hks : KS T) (hl : T.length ≤ room) (hrm : room ≤ 1024) (k : ByteArray) (vl t : Int) (hn : 1100 < n)
    (hQ : ∀ σ' v', RT σ' q v' (putT T room ref k vl t).1 room ref → (∀ b ∈ blks v', b ∈ blks v ∨ σ.next ≤ b) → Same σ σ' (q :: blks v) → Q (.tuple #[enV (putT T room ref k vl t).2.1, .int .i64 (putT T room ref k vl t).2.2], σ')) :
    W (acall Try.prog gs orc (n + 3) 53 [pt q, .string k, .int .i64 vl, .int .i64 t] σ) Q := by
  have hqn := h.obj.1
  have hvl := h.sl.lt
  obtain ⟨σ1, e1, hS1, v1, hn1⟩ := AE.oneVar σ 89 (encE zE) false
  have h1 := h.same hS1 nofun nofun
  obtain ⟨σ2, t2, v2, hS2, hn2⟩ := v1.store (vs' := encE zE) rfl (encEOk.single _)
  have l2 : ldCells σ2 σ.next 0 4 = some (encE zE) := v2.ldCells
  have h2 := h1.same hS2 (by simp; omega) (fun b hb w => by have := hvl b hb; simp at w; omega)
  have hS02 : Same σ σ2 (q :: blks v) := (hS1.app hS2).old fun b hb => by simp at hb; exact .inr (by omega)
  have hl1 := h1.ld0
  obtain ⟨a, c0, ev, hc0⟩ := h.sl.len
  rw [ev] at hl1
  simp only [encE] at e1 t2 l2
  rw [W_start (m := 52) (keep := []) Try.func53 rfl (by kernel_rfl) (by kernel_rfl) (by first | rfl | assumption | exact f.h53) (by rfl)]
  by_cases hb : bad k t
  · have hq := hQ σ2 v
    have ep : putT T room ref k vl t = (T, zE, 1) := by unfold putT; rw [if_pos hb]
    rw [ep] at hq
    by_cases c1 : (k.size : Int) < 1
    · simp (maxSteps := 2000000) only [B0, B1, B2, B3, B4, B5, B6, B7, Gd, extV, Nat.reduceLT, Nat.reduceEqDiff, Nat.reduceBEq, Nat.reduceAdd, Nat.reduceSub, Nat.reduceMul, ↓reduceIte, reduceCtorEq, if_true, if_false, ite_true, ite_false, Int.reduceLT, Int.reduceLE, ptr, allocV_zero Try.zero_89, Try.len_9, Try.st_89, callV_func Try.enters_57, Try.fa_95_0, Try.ld_87, Try.ia_87, Try.fa_89_3, Try.ld_4, callV_func Try.enters_123, Try.ld_89, Value.cells,  e1,  c1,  bld89z,  t2,  l2,  List.size_toArray, rs_ct (show Try.f53.results = #[.cell 8 89,  .tmp 9] from rfl)]
      exact hq h2 (fun b hb => .inl hb) hS02
    · by_cases c2 : 64 < (k.size : Int)
      · simp (maxSteps := 2000000) only [B0, B1, B2, B3, B4, B5, B6, B7, Gd, extV, Nat.reduceLT, Nat.reduceEqDiff, Nat.reduceBEq, Nat.reduceAdd, Nat.reduceSub, Nat.reduceMul, ↓reduceIte, reduceCtorEq, if_true, if_false, ite_true, ite_false, Int.reduceLT, Int.reduceLE, ptr, allocV_zero Try.zero_89, Try.len_9, Try.st_89, callV_func Try.enters_57, Try.fa_95_0, Try.ld_87, Try.ia_87, Try.fa_89_3, Try.ld_4, callV_func Try.enters_123, Try.ld_89, Value.cells,  e1,  c1,  c2,  bld89z,  t2,  l2,  List.size_toArray, rs_ct (show Try.f53.results = #[.cell 8 89,  .tmp 9] from rfl)]
        exact hq h2 (fun b hb => .inl hb) hS02
      · by_cases c3 : t < 0
        · simp (maxSteps := 2000000) only [B0, B1, B2, B3, B4, B5, B6, B7, Gd, extV, Nat.reduceLT, Nat.reduceEqDiff, Nat.reduceBEq, Nat.reduceAdd, Nat.reduceSub, Nat.reduceMul, ↓reduceIte, reduceCtorEq, if_true, if_false, ite_true, ite_false, Int.reduceLT, Int.reduceLE, ptr, allocV_zero Try.zero_89, Try.len_9, Try.st_89, callV_func Try.enters_57, Try.fa_95_0, Try.ld_87, Try.ia_87, Try.fa_89_3, Try.ld_4, callV_func Try.enters_123, Try.ld_89, Value.cells,  e1,  c1,  c2,  c3,  bld89z,  t2,  l2,  List.size_toArray, rs_ct (show Try.f53.results = #[.cell 8 89,  .tmp 9] from rfl)]
          exact hq h2 (fun b hb => .inl hb) hS02
        · have c4 : 1099511627776 < t := by unfold bad at hb; omega
          simp (maxSteps := 2000000) only [B0, B1, B2, B3, B4, B5, B6, B7, Gd, extV, Nat.reduceLT, Nat.reduceEqDiff, Nat.reduceBEq, Nat.reduceAdd, Nat.reduceSub, Nat.reduceMul, ↓reduceIte, reduceCtorEq, if_true, if_false, ite_true, ite_false, Int.reduceLT, Int.reduceLE, ptr, allocV_zero Try.zero_89, Try.len_9, Try.st_89, callV_func Try.enters_57, Try.fa_95_0, Try.ld_87, Try.ia_87, Try.fa_89_3, Try.ld_4, callV_func Try.enters_123, Try.ld_89, Value.cells,  e1,  c1,  c2,  c3,  c4,  bld89z,  t2,  l2,  List.size_toArray, rs_ct (show Try.f53.results = #[.cell 8 89,  .tmp 9] from rfl)]
          exact hq h2 (fun b hb => .inl hb) hS02
  · have c1 : ((k.size : Int) < 1) = False := eq_false (by unfold bad at hb; omega)
    have c2 : ((64 : Int) < (k.size : Int)) = False := eq_false (by unfold bad at hb; omega)
    have c3 : (t < 0) = False := eq_false (by unfold bad at hb; omega)
    have c4 : ((1099511627776 : Int) < t) = False := eq_false (by unfold bad at hb; omega)
    simp (maxSteps := 2000000) only [B0, B1, B2, B3, B4, B5, B6, B7, Gd, extV, Nat.reduceLT, Nat.reduceEqDiff, Nat.reduceBEq, Nat.reduceAdd, Nat.reduceSub, Nat.reduceMul, ↓reduceIte, reduceCtorEq, if_true, if_false, ite_true, ite_false, Int.reduceLT, Int.reduceLE, ptr, allocV_zero Try.zero_89, Try.len_9, Try.st_89, callV_func Try.enters_57, Try.fa_95_0, Try.ld_87, Try.ia_87, Try.fa_89_3, Try.ld_4, callV_func Try.enters_123, Try.ld_89, Value.cells,  e1,  c1,  c2,  c3,  c4, rs_ct (show Try.f53.results = #[.cell 8 89,  .tmp 9] from rfl)]
    refine rfind_run f h1 k (by omega) (by omega) (fun hno => ?_) fun j y hj hy => ?_
    · have hge : ((0 : Int) ≤ (-1 : Int)) = False := eq_false (by omega)
      have ep : putT T room ref k vl t = layT T room ref (k, vl, t, false) := by unfold putT; rw [if_neg hb, hno]; rfl
      simp (maxSteps := 2000000) only [B0, B1, B2, B3, B4, B5, B6, B7, Gd, extV, Nat.reduceLT, Nat.reduceEqDiff, Nat.reduceBEq, Nat.reduceAdd, Nat.reduceSub, Nat.reduceMul, ↓reduceIte, reduceCtorEq, if_true, if_false, ite_true, ite_false, Int.reduceLT, Int.reduceLE, ptr, allocV_zero Try.zero_89, Try.len_9, Try.st_89, callV_func Try.enters_57, Try.fa_95_0, Try.ld_87, Try.ia_87, Try.fa_89_3, Try.ld_4, callV_func Try.enters_123, Try.ld_89, hge,  bld89, rs_ct (show Try.f53.results = #[.cell 8 89,  .tmp 9] from rfl)]
      refine rlay_run f h1 hks hl hrm (k, vl, t, false) (by omega) fun σ3 v3' h3 hF3 hS3 => ?_
      rw [← ep] at h3 ⊢
      have hq := hQ
      generalize (putT T room ref k vl t) = r at h3 hq
      obtain ⟨T', y, c⟩ := r
      have v3 := v1.same hS3 (fun w => by have := hvl; simp at w; rcases w with w | w; omega; have := hvl _ w; omega)
      obtain ⟨σ4, t4, v4, hS4, hn4⟩ := v3.store (vs' := encE y) rfl (encEOk.single _)
      have l4 : ldCells σ4 σ.next 0 4 = some (encE y) := v4.ldCells
      have n3 := hS3.next
      simp only [encE] at t4 l4
      simp (maxSteps := 2000000) only [B0, B1, B2, B3, B4, B5, B6, B7, Gd, extV, Nat.reduceLT, Nat.reduceEqDiff, Nat.reduceBEq, Nat.reduceAdd, Nat.reduceSub, Nat.reduceMul, ↓reduceIte, reduceCtorEq, if_true, if_false, ite_true, ite_false, Int.reduceLT, Int.reduceLE, ptr, allocV_zero Try.zero_89, Try.len_9, Try.st_89, callV_func Try.enters_57, Try.fa_95_0, Try.ld_87, Try.ia_87, Try.fa_89_3, Try.ld_4, callV_func Try.enters_123, Try.ld_89, enV,  Value.cells,  List.size_toArray,  t4,  l4, rs_ct (show Try.f53.results = #[.cell 8 89,  .tmp 9] from rfl)]
      refine hq σ4 v3' (h3.same hS4 (by simp; omega) (fun b hb w => ?_)) (fun b hb => ?_) ?_
      · simp at w
        rcases hF3 b hb with z | z
        · have := hvl b z; omega
        · omega
      · rcases hF3 b hb with z | z
        · exact .inl z
        · exact .inr (by omega)
      · exact (((hS1.app hS3).app hS4)).old fun b hb => by simp only [List.nil_append, List.mem_append, List.mem_singleton] at hb; rcases hb with hb | hb; exact .inl hb; exact .inr (by omega)
    · have hge : ((0 : Int) ≤ (j : Int)) = True := eq_true (by omega)
      have hjl := (List.getElem?_eq_some_iff.1 hj).1
      have hgy : getE k T = some y := by rw [← hy]; exact getE_mem hks.nd (List.mem_of_getElem? hj)
      obtain ⟨b, o, cap, g, e5, hcap, hbl, hr⟩ := h1.sl.at_ hj
      have y3 := hr.ld (j := 3) (v := .bool y.2.2.2) hj rfl
      rw [ev] at e5
      injection e5 with e5 _ e9
      subst e5 e9
      cases hst : y.2.2.2 with
      | true =>
        rw [hst] at y3
        have hq := hQ σ2 v
        have ep : putT T room ref k vl t = (T, zE, 9) := by unfold putT; rw [if_neg hb, hgy]; simp [hst]
        rw [ep] at hq
        simp (maxSteps := 2000000) only [B0, B1, B2, B3, B4, B5, B6, B7, Gd, extV, Nat.reduceLT, Nat.reduceEqDiff, Nat.reduceBEq, Nat.reduceAdd, Nat.reduceSub, Nat.reduceMul, ↓reduceIte, reduceCtorEq, if_true, if_false, ite_true, ite_false, Int.reduceLT, Int.reduceLE, ptr, allocV_zero Try.zero_89, Try.len_9, Try.st_89, callV_func Try.enters_57, Try.fa_95_0, Try.ld_87, Try.ia_87, Try.fa_89_3, Try.ld_4, callV_func Try.enters_123, Try.ld_89, hge,  hl1,  hjl,  y3,  bld89z,  Value.cells,  t2,  l2,  List.size_toArray, rs_ct (show Try.f53.results = #[.cell 8 89,  .tmp 9] from rfl)]
        exact hq h2 (fun b hb => .inl hb) hS02
      | false =>
        rw [hst] at y3
        have ep : putT T room ref k vl t = layT T room ref (k, vl, t, false) := by unfold putT; rw [if_neg hb, hgy]; simp [hst]
        simp (maxSteps := 2000000) only [B0, B1, B2, B3, B4, B5, B6, B7, Gd, extV, Nat.reduceLT, Nat.reduceEqDiff, Nat.reduceBEq, Nat.reduceAdd, Nat.reduceSub, Nat.reduceMul, ↓reduceIte, reduceCtorEq, if_true, if_false, ite_true, ite_false, Int.reduceLT, Int.reduceLE, ptr, allocV_zero Try.zero_89, Try.len_9, Try.st_89, callV_func Try.enters_57, Try.fa_95_0, Try.ld_87, Try.ia_87, Try.fa_89_3, Try.ld_4, callV_func Try.enters_123, Try.ld_89, hge,  hl1,  hjl,  y3,  bld89, rs_ct (show Try.f53.results = #[.cell 8 89,  .tmp 9] from rfl)]
        refine rlay_run f h1 hks hl hrm (k, vl, t, false) (by omega) fun σ3 v3' h3 hF3 hS3 => ?_
        rw [← ep] at h3 ⊢
        have hq := hQ
        generalize (putT T room ref k vl t) = r at h3 hq
        obtain ⟨T', y, c⟩ := r
        have v3 := v1.same hS3 (fun w => by have := hvl; simp at w; rcases w with w | w; omega; have := hvl _ w; omega)
        obtain ⟨σ4, t4, v4, hS4, hn4⟩ := v3.store (vs' := encE y) rfl (encEOk.single _)
        have l4 : ldCells σ4 σ.next 0 4 = some (encE y) := v4.ldCells
        have n3 := hS3.next
        simp only [encE] at t4 l4
        simp (maxSteps := 2000000) only [B0, B1, B2, B3, B4, B5, B6, B7, Gd, extV, Nat.reduceLT, Nat.reduceEqDiff, Nat.reduceBEq, Nat.reduceAdd, Nat.reduceSub, Nat.reduceMul, ↓reduceIte, reduceCtorEq, if_true, if_false, ite_true, ite_false, Int.reduceLT, Int.reduceLE, ptr, allocV_zero Try.zero_89, Try.len_9, Try.st_89, callV_func Try.enters_57, Try.fa_95_0, Try.ld_87, Try.ia_87, Try.fa_89_3, Try.ld_4, callV_func Try.enters_123, Try.ld_89, enV,  Value.cells,  List.size_toArray,  t4,  l4, rs_ct (show Try.f53.results = #[.cell 8 89,  .tmp 9] from rfl)]
        refine hq σ4 v3' (h3.same hS4 (by simp; omega) (fun b hb w => ?_)) (fun b hb => ?_) ?_
        · simp at w
          rcases hF3 b hb with z | z
          · have := hvl b z; omega
          · omega
        · rcases hF3 b hb with z | z
          · exact .inl z
          · exact .inr (by omega)
        · exact (((hS1.app hS3).app hS4)).old fun b hb => by simp only [List.nil_append, List.mem_append, List.mem_singleton] at hb; rcases hb with hb | hb; exact .inl hb; exact .inr (by omega)
theorem rfix_run (f : FreeW orc) (h : RT σ q v T room ref) (hks : KS T) (hl : T.length ≤ room) (hrm : room ≤ 1024) (k : ByteArray) (vl : Int) (hn : 1100 < n)
    (hQ : ∀ σ' v', RT σ' q v' (fixT T room ref k vl).1 room ref → (∀ b ∈ blks v', b ∈ blks v ∨ σ.next ≤ b) → Same σ σ' (q :: blks v) → Q (.tuple #[enV (fixT T room ref k vl).2.1, .int .i64 (fixT T room ref k vl).2.2], σ')) :
    W (acall Try.prog gs orc (n + 3) 55 [pt q, .string k, .int .i64 vl] σ) Q := by
  have hqn := h.obj.1
  have hvl := h.sl.lt
  obtain ⟨σ1, e1, hS1, v1, hn1⟩ := AE.oneVar σ 89 (encE zE) false
  have h1 := h.same hS1 nofun nofun
  obtain ⟨σ2, t2, v2, hS2, hn2⟩ := v1.store (vs' := encE zE) rfl (encEOk.single _)
  have l2 : ldCells σ2 σ.next 0 4 = some (encE zE) := v2.ldCells
  have h2 := h1.same hS2 (by simp; omega) (fun b hb w => by have := hvl b hb; simp at w; omega)
  have hS02 : Same σ σ2 (q :: blks v) := (hS1.app hS2).old fun b hb => by simp at hb; exact .inr (by omega)
  simp only [encE] at e1 t2 l2
  rw [W_start (m := 24) (keep := []) Try.func55 rfl (by kernel_rfl) (by kernel_rfl) (by first | rfl | assumption | exact f.h55) (by rfl)]
  by_cases hb : bad k 0
  · have hq := hQ σ2 v
    have ep : fixT T room ref k vl = (T, zE, 1) := by unfold fixT; rw [if_pos hb]
    rw [ep] at hq
    by_cases c1 : (k.size : Int) < 1
    · simp (maxSteps := 2000000) only [B0, B1, B2, B3, B4, B5, B6, B7, Gd, extV, Nat.reduceLT, Nat.reduceEqDiff, Nat.reduceBEq, Nat.reduceAdd, Nat.reduceSub, Nat.reduceMul, ↓reduceIte, reduceCtorEq, if_true, if_false, ite_true, ite_false, Int.reduceLT, Int.reduceLE, ptr, allocV_zero Try.zero_89, Try.len_9, Try.st_89, callV_func Try.enters_123, Try.ld_89, Value.cells,  e1,  c1,  bld89z,  t2,  l2,  List.size_toArray, rs_ct (show Try.f55.results = #[.cell 6 89,  .tmp 7] from rfl)]
      exact hq h2 (fun b hb => .inl hb) hS02
    · have c2 : 64 < (k.size : Int) := by unfold bad at hb; omega
      simp (maxSteps := 2000000) only [B0, B1, B2, B3, B4, B5, B6, B7, Gd, extV, Nat.reduceLT, Nat.reduceEqDiff, Nat.reduceBEq, Nat.reduceAdd, Nat.reduceSub, Nat.reduceMul, ↓reduceIte, reduceCtorEq, if_true, if_false, ite_true, ite_false, Int.reduceLT, Int.reduceLE, ptr, allocV_zero Try.zero_89, Try.len_9, Try.st_89, callV_func Try.enters_123, Try.ld_89, Value.cells,  e1,  c1,  c2,  bld89z,  t2,  l2,  List.size_toArray, rs_ct (show Try.f55.results = #[.cell 6 89,  .tmp 7] from rfl)]
      exact hq h2 (fun b hb => .inl hb) hS02
  · have c1 : ((k.size : Int) < 1) = False := eq_false (by unfold bad at hb; omega)
    have c2 : ((64 : Int) < (k.size : Int)) = False := eq_false (by unfold bad at hb; omega)
    have ep : fixT T room ref k vl = layT T room ref (k, vl, 0, true) := by unfold fixT; rw [if_neg hb]
    simp (maxSteps := 2000000) only [B0, B1, B2, B3, B4, B5, B6, B7, Gd, extV, Nat.reduceLT, Nat.reduceEqDiff, Nat.reduceBEq, Nat.reduceAdd, Nat.reduceSub, Nat.reduceMul, ↓reduceIte, reduceCtorEq, if_true, if_false, ite_true, ite_false, Int.reduceLT, Int.reduceLE, ptr, allocV_zero Try.zero_89, Try.len_9, Try.st_89, callV_func Try.enters_123, Try.ld_89, Value.cells,  e1,  c1,  c2,  bld89t, rs_ct (show Try.f55.results = #[.cell 6 89,  .tmp 7] from rfl)]
    refine rlay_run f h1 hks hl hrm (k, vl, 0, true) (by omega) fun σ3 v3' h3 hF3 hS3 => ?_
    rw [← ep] at h3 ⊢
    have hq := hQ
    generalize (fixT T room ref k vl) = r at h3 hq
    obtain ⟨T', y, c⟩ := r
    have v3 := v1.same hS3 (fun w => by have := hvl; simp at w; rcases w with w | w; omega; have := hvl _ w; omega)
    obtain ⟨σ4, t4, v4, hS4, hn4⟩ := v3.store (vs' := encE y) rfl (encEOk.single _)
    have l4 : ldCells σ4 σ.next 0 4 = some (encE y) := v4.ldCells
    have n3 := hS3.next
    simp only [encE] at t4 l4
    simp (maxSteps := 2000000) only [B0, B1, B2, B3, B4, B5, B6, B7, Gd, extV, Nat.reduceLT, Nat.reduceEqDiff, Nat.reduceBEq, Nat.reduceAdd, Nat.reduceSub, Nat.reduceMul, ↓reduceIte, reduceCtorEq, if_true, if_false, ite_true, ite_false, Int.reduceLT, Int.reduceLE, ptr, allocV_zero Try.zero_89, Try.len_9, Try.st_89, callV_func Try.enters_123, Try.ld_89, enV,  Value.cells,  List.size_toArray,  t4,  l4, rs_ct (show Try.f55.results = #[.cell 6 89,  .tmp 7] from rfl)]
    refine hq σ4 v3' (h3.same hS4 (by simp; omega) (fun b hb w => ?_)) (fun b hb => ?_) ?_
    · simp at w
      rcases hF3 b hb with z | z
      · have := hvl b z; omega
      · omega
    · rcases hF3 b hb with z | z
      · exact .inl z
      · exact .inr (by omega)
    · exact (((hS1.app hS3).app hS4)).old fun b hb => by simp only [List.nil_append, List.mem_append, List.mem_singleton] at hb; rcases hb with hb | hb; exact .inl hb; exact .inr (by omega)
theorem rdrop_run (f : FreeW orc) (h : RT σ q v T room ref) (hks : KS T) (hN : T.length ≤ 1024) (k : ByteArray) (hn : 1100 < n)
    (hQ : ∀ σ' v', RT σ' q v' (dropT T k).1 room ref → (∀ b ∈ blks v', b ∈ blks v ∨ σ.next ≤ b) → Same σ σ' [q] → Q (.int .i64 (dropT T k).2, σ')) :
    W (acall Try.prog gs orc (n + 2) 58 [pt q, .string k] σ) Q := by
  rw [W_start (m := 14) (keep := []) Try.func58 rfl (by kernel_rfl) (by kernel_rfl) (by first | rfl | assumption | exact f.h58) (by rfl)]
  simp (maxSteps := 2000000) only [B0, B1, B2, B3, B4, B5, B6, B7, Gd, extV, Nat.reduceLT, Nat.reduceEqDiff, Nat.reduceBEq, Nat.reduceAdd, Nat.reduceSub, Nat.reduceMul, ↓reduceIte, reduceCtorEq, if_true, if_false, ite_true, ite_false, Int.reduceLT, Int.reduceLE, ptr, callV_func Try.enters_57, callV_func Try.enters_124, rs_tmp (show Try.f58.results = #[.tmp 4] from rfl)]
  refine rfind_run f h k (by omega) (by omega) (fun hno => ?_) fun j y hj hy => ?_
  · have ep : dropT T k = (T, 6) := by unfold dropT; rw [hno]; rfl
    have := hQ σ v
    rw [ep] at this
    simp (maxSteps := 2000000) only [B0, B1, B2, B3, B4, B5, B6, B7, Gd, extV, Nat.reduceLT, Nat.reduceEqDiff, Nat.reduceBEq, Nat.reduceAdd, Nat.reduceSub, Nat.reduceMul, ↓reduceIte, reduceCtorEq, if_true, if_false, ite_true, ite_false, Int.reduceLT, Int.reduceLE, ptr, callV_func Try.enters_57, callV_func Try.enters_124, show ((-1 : Int) < 0) = True from eq_true (by omega), rs_tmp (show Try.f58.results = #[.tmp 4] from rfl)]
    exact this h (fun b hb => .inl hb) (.refl _ _)
  · have hneg : ((j : Int) < 0) = False := eq_false (by omega)
    have hgy : getE k T = some y := by rw [← hy]; exact getE_mem hks.nd (List.mem_of_getElem? hj)
    have ep : dropT T k = (delE y.1 T, 0) := by unfold dropT; rw [hgy, hy]; rfl
    rw [ep] at hQ
    simp (maxSteps := 2000000) only [B0, B1, B2, B3, B4, B5, B6, B7, Gd, extV, Nat.reduceLT, Nat.reduceEqDiff, Nat.reduceBEq, Nat.reduceAdd, Nat.reduceSub, Nat.reduceMul, ↓reduceIte, reduceCtorEq, if_true, if_false, ite_true, ite_false, Int.reduceLT, Int.reduceLE, ptr, callV_func Try.enters_57, callV_func Try.enters_124, hneg, rs_tmp (show Try.f58.results = #[.tmp 4] from rfl)]
    refine rtake_run f h hks hj (by omega) (by omega) fun σ1 v1 h1 hb1 hS1 => ?_
    simp (maxSteps := 2000000) only [B0, B1, B2, B3, B4, B5, B6, B7, Gd, extV, Nat.reduceLT, Nat.reduceEqDiff, Nat.reduceBEq, Nat.reduceAdd, Nat.reduceSub, Nat.reduceMul, ↓reduceIte, reduceCtorEq, if_true, if_false, ite_true, ite_false, Int.reduceLT, Int.reduceLE, ptr, callV_func Try.enters_57, callV_func Try.enters_124, rs_tmp (show Try.f58.results = #[.tmp 4] from rfl)]
    exact hQ σ1 v1 h1 (fun b hb => .inr (hb1 b hb)) hS1
end Go.Proofs.Ytongccpmdndcgaa.Tab
end
/- The document's table in memory: Touch, Due. -/
section
set_option linter.all false
namespace Go.Proofs.Ytongccpmdndcgaa.Tab
open Go Go.AE Go.Proofs.Ytongccpmdndcgaa.Alm Go.Sort Go.Proofs
set_option maxRecDepth 100000
set_option maxHeartbeats 1000000
attribute [local irreducible] Go.AE.Tr.put Go.AE.Tr.get
variable {gs : List Nat} {orc : Orc} {n : Nat} {σ : AHeap} {Q : Value × AHeap → Prop}
variable {q room : Nat} {v : Value} {T : List E} {ref : Bool}

theorem rtouch_run (f : FreeW orc) (h : RT σ q v T room ref) (hks : KS T) (hN : T.length ≤ 1024) (k : ByteArray) (t : Int) (hn : 1100 < n)
    (hQ : ∀ σ', RT σ' q v (touchT T k t).1 room ref → Same σ σ' (blks v) → Q (.int .i64 (touchT T k t).2, σ')) :
    W (acall Try.prog gs orc (n + 2) 56 [pt q, .string k, .int .i64 t] σ) Q := by
  have hl1 := h.ld0
  obtain ⟨a, c0, ev, hc0⟩ := h.sl.len
  rw [ev] at hl1
  have hsz : (⟨#[107, 101, 121]⟩ : ByteArray).size = 3 := rfl
  rw [W_start (m := 35) (keep := []) Try.func56 rfl (by kernel_rfl) (by kernel_rfl) (by first | rfl | assumption | exact f.h56) (by rfl)]
  by_cases hb : t < 0 ∨ 1099511627776 < t
  · have ep : touchT T k t = (T, 1) := by unfold touchT; rw [if_pos (by unfold bad; omega)]
    rw [ep] at hQ
    by_cases c1 : t < 0
    · simp (maxSteps := 2000000) only [B0, B1, B2, B3, B4, B5, B6, B7, Gd, extV, Nat.reduceLT, Nat.reduceEqDiff, Nat.reduceBEq, Nat.reduceAdd, Nat.reduceSub, Nat.reduceMul, ↓reduceIte, reduceCtorEq, if_true, if_false, ite_true, ite_false, Int.reduceLT, Int.reduceLE, ptr, callV_func Try.enters_57, Try.fa_95_0, Try.ld_87, Try.ia_87, Try.fa_89_3, Try.ld_4, Try.fa_89_2, Try.st_2, c1, rs_tmp (show Try.f56.results = #[.tmp 6] from rfl)]
      exact hQ σ h (.refl _ _)
    · have c2 : 1099511627776 < t := by omega
      simp (maxSteps := 2000000) only [B0, B1, B2, B3, B4, B5, B6, B7, Gd, extV, Nat.reduceLT, Nat.reduceEqDiff, Nat.reduceBEq, Nat.reduceAdd, Nat.reduceSub, Nat.reduceMul, ↓reduceIte, reduceCtorEq, if_true, if_false, ite_true, ite_false, Int.reduceLT, Int.reduceLE, ptr, callV_func Try.enters_57, Try.fa_95_0, Try.ld_87, Try.ia_87, Try.fa_89_3, Try.ld_4, Try.fa_89_2, Try.st_2, c1,  c2, rs_tmp (show Try.f56.results = #[.tmp 6] from rfl)]
      exact hQ σ h (.refl _ _)
  · have hnb : ¬ bad ⟨#[107, 101, 121]⟩ t := by unfold bad; omega
    have c1 : (t < 0) = False := eq_false (by omega)
    have c2 : ((1099511627776 : Int) < t) = False := eq_false (by omega)
    simp (maxSteps := 2000000) only [B0, B1, B2, B3, B4, B5, B6, B7, Gd, extV, Nat.reduceLT, Nat.reduceEqDiff, Nat.reduceBEq, Nat.reduceAdd, Nat.reduceSub, Nat.reduceMul, ↓reduceIte, reduceCtorEq, if_true, if_false, ite_true, ite_false, Int.reduceLT, Int.reduceLE, ptr, callV_func Try.enters_57, Try.fa_95_0, Try.ld_87, Try.ia_87, Try.fa_89_3, Try.ld_4, Try.fa_89_2, Try.st_2, c1,  c2, rs_tmp (show Try.f56.results = #[.tmp 6] from rfl)]
    refine rfind_run f h k (by omega) (by omega) (fun hno => ?_) fun j y hj hy => ?_
    · have ep : touchT T k t = (T, 6) := by unfold touchT; rw [if_neg hnb, hno]
      rw [ep] at hQ
      simp (maxSteps := 2000000) only [B0, B1, B2, B3, B4, B5, B6, B7, Gd, extV, Nat.reduceLT, Nat.reduceEqDiff, Nat.reduceBEq, Nat.reduceAdd, Nat.reduceSub, Nat.reduceMul, ↓reduceIte, reduceCtorEq, if_true, if_false, ite_true, ite_false, Int.reduceLT, Int.reduceLE, ptr, callV_func Try.enters_57, Try.fa_95_0, Try.ld_87, Try.ia_87, Try.fa_89_3, Try.ld_4, Try.fa_89_2, Try.st_2, show ((-1 : Int) < 0) = True from eq_true (by omega), rs_tmp (show Try.f56.results = #[.tmp 6] from rfl)]
      exact hQ σ h (.refl _ _)
    · have hneg : ((j : Int) < 0) = False := eq_false (by omega)
      have hjl := (List.getElem?_eq_some_iff.1 hj).1
      have hgy : getE k T = some y := by rw [← hy]; exact getE_mem hks.nd (List.mem_of_getElem? hj)
      obtain ⟨b, o, cap, g, e5, hcap, hbl, hr⟩ := h.sl.at_ hj
      have y3 := hr.ld (j := 3) (v := .bool y.2.2.2) hj rfl
      have e6 := e5
      rw [ev] at e5
      injection e5 with e5 _ e9
      subst e5 e9
      cases hst : y.2.2.2 with
      | true =>
        rw [hst] at y3
        have ep : touchT T k t = (T, 9) := by unfold touchT; rw [if_neg hnb, hgy]; simp [hst]
        rw [ep] at hQ
        simp (maxSteps := 2000000) only [B0, B1, B2, B3, B4, B5, B6, B7, Gd, extV, Nat.reduceLT, Nat.reduceEqDiff, Nat.reduceBEq, Nat.reduceAdd, Nat.reduceSub, Nat.reduceMul, ↓reduceIte, reduceCtorEq, if_true, if_false, ite_true, ite_false, Int.reduceLT, Int.reduceLE, ptr, callV_func Try.enters_57, Try.fa_95_0, Try.ld_87, Try.ia_87, Try.fa_89_3, Try.ld_4, Try.fa_89_2, Try.st_2, hneg,  hl1,  hjl,  y3, rs_tmp (show Try.f56.results = #[.tmp 6] from rfl)]
        exact hQ σ h (.refl _ _)
      | false =>
        rw [hst] at y3
        have ep : touchT T k t = (putE (y.1, y.2.1, t, false) T, 0) := by unfold touchT; rw [if_neg hnb, hgy]; simp [hst]
        rw [ep] at hQ
        obtain ⟨ob, p1, p2⟩ := hr.putField encEOk hj hcap (y := (y.1, y.2.1, t, false)) (v := .int .i64 t) (j := 2) rfl (by omega) (by simp [encE, hst])
        have hS := Same.set σ b ob
        have hqb : q ∉ [b] := fun w => h.qv (by rw [ev]; simpa [blks] using w)
        have hset := set_put hks (e := (y.1, y.2.1, t, false)) hj rfl
        have hr' : RT (σ.set b ob) q v (putE (y.1, y.2.1, t, false) T) room ref := by
          refine ⟨h.obj.same hS hqb, .inr (.inr ⟨b, o, c0, g, ?_, ?_, hbl, ?_⟩), h.qv⟩
          · rw [← hset, List.length_set]; exact ev
          · rw [← hset, List.length_set]; exact hcap
          · rw [← hset]; exact p2
        simp (maxSteps := 2000000) only [B0, B1, B2, B3, B4, B5, B6, B7, Gd, extV, Nat.reduceLT, Nat.reduceEqDiff, Nat.reduceBEq, Nat.reduceAdd, Nat.reduceSub, Nat.reduceMul, ↓reduceIte, reduceCtorEq, if_true, if_false, ite_true, ite_false, Int.reduceLT, Int.reduceLE, ptr, callV_func Try.enters_57, Try.fa_95_0, Try.ld_87, Try.ia_87, Try.fa_89_3, Try.ld_4, Try.fa_89_2, Try.st_2, hneg,  hl1,  hjl,  y3,  Value.cells,  List.size_toArray,  p1, rs_tmp (show Try.f56.results = #[.tmp 6] from rfl)]
        exact hQ _ hr' (hS.mono fun x hx => by rw [ev]; simpa [blks] using hx)
theorem due_step (h : KS T) {now : Int} {y : E} {x : Al} {l : List Al} (hA : alS T = x :: l) (hya : alE y = x) (hy : y ∈ T) (hys : y.2.2.2 = false) (hle : y.2.2.1 ≤ now) :
    dueT T now = y :: dueT (delE y.1 T) now ∧ restT (delE y.1 T) now = restT T now := by
  have hxy : x.1 = y.1 := by rw [← hya]; rfl
  have hx2 : x.2 = y.2.2.1 := by rw [← hya]; rfl
  have hkd : KD (x :: l) := by rw [← hA]; exact (alS_of h).kd h
  have hal : alS (delE y.1 T) = l := by rw [← alS_del h, hA, ← hxy]; exact remA_cons_self hkd
  refine ⟨?_, ?_⟩
  · unfold dueT
    rw [hA, hal]
    have hd : Alm.due now (x :: l) = x :: Alm.due now l := by unfold Alm.due; rw [List.takeWhile_cons_of_pos (by simp; omega)]
    rw [hd, List.map_cons]
    congr 1
    · rw [hxy, getE_mem h.nd hy]; rfl
    · refine List.map_congr_left fun z hz => ?_
      have hzl : z ∈ l := (List.takeWhile_sublist _).subset hz
      have hne : z.1 ≠ y.1 := fun w => by
        unfold KD at hkd
        exact (List.nodup_cons.1 hkd).1 (List.mem_map.2 ⟨z, hzl, by rw [w]; exact hxy.symm⟩)
      rw [getE_del h, if_neg hne]
  · unfold restT delE
    rw [List.filter_filter]
    refine List.filter_congr fun e he => ?_
    by_cases hk : e.1 = y.1
    · have : e = y := by
        have e1 := getE_mem h.nd he
        have e2 := getE_mem h.nd hy
        rw [hk, e2] at e1
        exact (Option.some.inj e1).symm
      subst this
      have : ¬ now < e.2.2.1 := by omega
      simp [hys, this]
    · simp [hk]
theorem due_stop (h : KS T) {now : Int} (hs : ∀ x l, alS T = x :: l → now < x.2) : dueT T now = [] ∧ restT T now = T := by
  have hd : Alm.due now (alS T) = [] := by
    cases hA : alS T with
    | nil => rfl
    | cons x l => have := hs x l hA; unfold Alm.due; rw [List.takeWhile_cons_of_neg (by simp; omega)]
  refine ⟨by unfold dueT; rw [hd]; rfl, ?_⟩
  have := less_due h now
  rw [hd, less_nil] at this
  exact this.symm
end Go.Proofs.Ytongccpmdndcgaa.Tab
end
/- The document's table in memory: Due, Sweep. -/
section
set_option linter.all false
namespace Go.Proofs.Ytongccpmdndcgaa.Tab
open Go Go.AE Go.Proofs.Ytongccpmdndcgaa.Alm Go.Sort Go.Proofs
set_option maxRecDepth 100000
set_option maxHeartbeats 1000000
attribute [local irreducible] Go.AE.Tr.put Go.AE.Tr.get
variable {gs : List Nat} {orc : Orc} {n : Nat} {σ : AHeap} {Q : Value × AHeap → Prop}
variable {q room : Nat} {v : Value} {T : List E} {ref : Bool}

theorem rdue_t (f : FreeW orc) (h : RT σ q v T room ref) (hks : KS T) (hN : T.length ≤ 1024) (now : Int) (hn : 1100 < n)
    (hQ : ∀ σ' v' vo, RT σ' q v' (restT T now) room ref → (∀ b ∈ blks v', b ∈ blks v ∨ σ.next ≤ b) → SlAt σ' 89 4 encE vo (dueT T now) → (∀ b ∈ blks vo, σ.next ≤ b) → Same σ σ' [q] → Q (vo, σ')) :
    W (acall Try.prog gs orc (n + 2) 60 [pt q, .int .i64 now] σ) Q := by
  have hqn := h.obj.1
  have hvl := h.sl.lt
  rw [W_start (m := 30) (keep := []) Try.func60 rfl (by kernel_rfl) (by kernel_rfl) (by first | rfl | assumption | exact f.h60) (by rfl)]
  simp (maxSteps := 2000000) only [B0, B1, B2, B3, B4, B5, B6, B7, Gd, extV, Nat.reduceLT, Nat.reduceEqDiff, Nat.reduceBEq, Nat.reduceAdd, Nat.reduceSub, Nat.reduceMul, ↓reduceIte, reduceCtorEq, if_true, if_false, ite_true, ite_false, Int.reduceLT, Int.reduceLE, ptr, callV_func Try.enters_125, Try.fa_95_0, Try.ld_87, Try.ia_87, Try.fa_89_2, Try.ld_2, callV_func Try.enters_124, rs_tmp (show Try.f60.results = #[.tmp 4] from rfl)]
  refine W_inv (fun m fr σ' => ∃ (t : Tr Value) (S O : List E) (v' vo : Value), fr = ⟨30, t⟩ ∧ t.get 0 = some (pt q) ∧ t.get 1 = some (.int .i64 now) ∧ t.get 5 = some vo ∧ m = S.length ∧ KS S ∧ S.length + O.length = T.length ∧ O ++ dueT S now = dueT T now ∧ restT S now = restT T now ∧ RT σ' q v' S room ref ∧ (∀ b ∈ blks v', b ∈ blks v ∨ σ.next ≤ b) ∧ SlAt σ' 89 4 encE vo O ∧ (∀ b ∈ blks vo, σ.next ≤ b) ∧ (∀ b ∈ blks v', b ∉ blks vo) ∧ Same σ σ' [q]) T.length (by omega)
    ⟨_, T, [], v, .slice none 0 0, rfl, by simp [get_put, get_args], by simp [get_put, get_args], by simp [get_put], rfl, hks, by simp, by simp, rfl, h, (fun b hb => .inl hb), .inl ⟨rfl, rfl⟩, nofun, nofun, .refl _ _⟩ ?_
  rintro m fr σ1 ⟨t, S, O, v1, vo, rfl, t0, t1, t5, rfl, hkS, hlen, hO, hR, h1, hb1, hvo, hbo, hdis, hS1⟩
  have n1 := hS1.next
  have hl1 := h1.ld0
  obtain ⟨a, c, ev, hc⟩ := h1.sl.len
  rw [ev] at hl1
  have fin : (∀ x l, alS S = x :: l → now < x.2) → Q (vo, σ1) := fun hs => by
    obtain ⟨e1, e2⟩ := due_stop hkS hs
    rw [e1, List.append_nil] at hO
    rw [e2] at hR
    exact hQ σ1 v1 vo (hR ▸ h1) hb1 (hO ▸ hvo) hbo hS1
  simp (maxSteps := 2000000) only [B0, B1, B2, B3, B4, B5, B6, B7, Gd, extV, Nat.reduceLT, Nat.reduceEqDiff, Nat.reduceBEq, Nat.reduceAdd, Nat.reduceSub, Nat.reduceMul, ↓reduceIte, reduceCtorEq, if_true, if_false, ite_true, ite_false, Int.reduceLT, Int.reduceLE, ptr, callV_func Try.enters_125, Try.fa_95_0, Try.ld_87, Try.ia_87, Try.fa_89_2, Try.ld_2, callV_func Try.enters_124, t0,  t1,  t5, rs_tmp (show Try.f60.results = #[.tmp 4] from rfl)]
  refine first_run f h1 hkS (by omega) (by omega) (fun hA => ?_) fun j y x l hj hys hA hya => ?_
  · simp (maxSteps := 2000000) only [B0, B1, B2, B3, B4, B5, B6, B7, Gd, extV, Nat.reduceLT, Nat.reduceEqDiff, Nat.reduceBEq, Nat.reduceAdd, Nat.reduceSub, Nat.reduceMul, ↓reduceIte, reduceCtorEq, if_true, if_false, ite_true, ite_false, Int.reduceLT, Int.reduceLE, ptr, callV_func Try.enters_125, Try.fa_95_0, Try.ld_87, Try.ia_87, Try.fa_89_2, Try.ld_2, callV_func Try.enters_124, t0,  t1,  t5,  show ((-1 : Int) < 0) = True from eq_true (by omega), rs_tmp (show Try.f60.results = #[.tmp 4] from rfl)]
    exact fin fun x l q => by rw [hA] at q; cases q
  · have hneg : ((j : Int) < 0) = False := eq_false (by omega)
    have hjl := (List.getElem?_eq_some_iff.1 hj).1
    obtain ⟨b, o, cap, g, e5, hcap, hbl, hr⟩ := h1.sl.at_ hj
    have y2 := hr.ld (j := 2) (v := .int .i64 y.2.2.1) hj rfl
    rw [ev] at e5
    injection e5 with e5 _ e9
    subst e5 e9
    have hx2 : x.2 = y.2.2.1 := by rw [← hya]; rfl
    by_cases hgt : now < y.2.2.1
    · have hgt' : (now < y.2.2.1) = True := eq_true hgt
      simp (maxSteps := 2000000) only [B0, B1, B2, B3, B4, B5, B6, B7, Gd, extV, Nat.reduceLT, Nat.reduceEqDiff, Nat.reduceBEq, Nat.reduceAdd, Nat.reduceSub, Nat.reduceMul, ↓reduceIte, reduceCtorEq, if_true, if_false, ite_true, ite_false, Int.reduceLT, Int.reduceLE, ptr, callV_func Try.enters_125, Try.fa_95_0, Try.ld_87, Try.ia_87, Try.fa_89_2, Try.ld_2, callV_func Try.enters_124, t0,  t1,  t5,  hneg,  hl1,  hjl,  y2,  hgt', rs_tmp (show Try.f60.results = #[.tmp 4] from rfl)]
      exact fin fun x' l' q => by rw [hA] at q; injection q with q1 _; rw [← q1, hx2]; exact hgt
    · have hgt' : (now < y.2.2.1) = False := eq_false hgt
      obtain ⟨s1, s2⟩ := due_step hkS hA hya (List.mem_of_getElem? hj) hys (by omega : y.2.2.1 ≤ now)
      simp (maxSteps := 2000000) only [B0, B1, B2, B3, B4, B5, B6, B7, Gd, extV, Nat.reduceLT, Nat.reduceEqDiff, Nat.reduceBEq, Nat.reduceAdd, Nat.reduceSub, Nat.reduceMul, ↓reduceIte, reduceCtorEq, if_true, if_false, ite_true, ite_false, Int.reduceLT, Int.reduceLE, ptr, callV_func Try.enters_125, Try.fa_95_0, Try.ld_87, Try.ia_87, Try.fa_89_2, Try.ld_2, callV_func Try.enters_124, t0,  t1,  t5,  hneg,  hl1,  hjl,  y2,  hgt', rs_tmp (show Try.f60.results = #[.tmp 4] from rfl)]
      refine rtake_run f h1 hkS hj (by omega) (by omega) fun σ2 v2 h2 hb2 hS2 => ?_
      have n2 := hS2.next
      have hqo : q ∉ blks vo := fun w => by have := hbo q w; omega
      have hvo2 := hvo.same hS2 (fun b hb w => by simp at w; exact hqo (w ▸ hb))
      have hvolt := hvo.lt
      obtain ⟨ao, co, rfl, hco⟩ := hvo2.len
      obtain ⟨σ6, v7, σ7, hbs, hap, hv7, hS7, hb7, hS6, hn7⟩ := append_one encEOk Try.underlying87 Try.underlying87 Try.elem_89 rfl (by decide) hvo2 y (xv := .agg #[.string y.1, .int .i64 y.2.1, .int .i64 y.2.2.1, .bool y.2.2.2]) rfl (by omega)
      have hdl := delE_len (k := y.1) hkS
      rw [getE_mem hkS.nd (List.mem_of_getElem? hj)] at hdl
      simp only [Option.isSome_some, if_true] at hdl
      have h2lt := h2.sl.lt
      simp (maxSteps := 2000000) only [B0, B1, B2, B3, B4, B5, B6, B7, Gd, extV, Nat.reduceLT, Nat.reduceEqDiff, Nat.reduceBEq, Nat.reduceAdd, Nat.reduceSub, Nat.reduceMul, ↓reduceIte, reduceCtorEq, if_true, if_false, ite_true, ite_false, Int.reduceLT, Int.reduceLE, ptr, callV_func Try.enters_125, Try.fa_95_0, Try.ld_87, Try.ia_87, Try.fa_89_2, Try.ld_2, callV_func Try.enters_124, t0,  t1,  t5,  enV,  hbs,  hap,  KInv_normal, rs_tmp (show Try.f60.results = #[.tmp 4] from rfl)]
      refine ⟨(delE y.1 S).length, by omega, _, delE y.1 S, O ++ [y], v2, v7, rfl, by simp [get_put, t0], by simp [get_put, t1], by simp [get_put], rfl, hkS.del, by simp; omega, by rw [List.append_assoc, List.singleton_append, ← s1]; exact hO, by rw [s2]; exact hR, h2.same hS7 hqo (fun b hb w => by have := hb2 b hb; have := hvolt b w; omega), (fun b hb => .inr (by have := hb2 b hb; omega)), hv7, (fun b hb => ?_), (fun b hb w => ?_), (((hS1.app hS2).app hS7).old fun b hb => ?_)⟩
      · rcases hb7 b hb with z | z
        · exact hbo b z
        · omega
      · have := hb2 b hb
        have := h2lt b hb
        rcases hb7 b w with z | z
        · have := hvolt b z; omega
        · omega
      · simp only [List.mem_append, List.mem_singleton] at hb
        rcases hb with (hb | hb) | hb
        · exact .inl (by simp [hb])
        · exact .inl (by simp [hb])
        · exact .inr (hbo b hb)
theorem rsweep_run (f : FreeW orc) (h : RT σ q v T room ref) (hks : KS T) (hN : T.length ≤ 1024) (rest : Int) (hn : 1100 < n)
    (hQ : ∀ σ' v' vo, RT σ' q v' (keptT T fun e => decide (e.2.1.tmod 3 = rest)) room ref → (∀ b ∈ blks v', b ∈ blks v ∨ σ.next ≤ b) → SlAt σ' 89 4 encE vo (sweepT T fun e => decide (e.2.1.tmod 3 = rest)) → (∀ b ∈ blks vo, σ.next ≤ b) → Same σ σ' [q] → Q (vo, σ')) :
    W (acall Try.prog gs orc (n + 2) 62 [pt q, .int .i64 3, .int .i64 rest] σ) Q := by
  have hqn := h.obj.1
  have hvl := h.sl.lt
  have hrem : ∀ {x y} {a : Int}, bin Try.prog .rem 3 x y (.int .i64 a) (.int .i64 3) = some (.int .i64 (a.tmod 3)) := by intro x y a; rw [bin_rem (by decide)]
  rw [W_start (m := 48) (keep := []) Try.func62 rfl (by kernel_rfl) (by kernel_rfl) (by first | rfl | assumption | exact f.h62) (by rfl)]
  simp (maxSteps := 2000000) only [B0, B1, B2, B3, B4, B5, B6, B7, Gd, extV, Nat.reduceLT, Nat.reduceEqDiff, Nat.reduceBEq, Nat.reduceAdd, Nat.reduceSub, Nat.reduceMul, ↓reduceIte, reduceCtorEq, if_true, if_false, ite_true, ite_false, Int.reduceLT, Int.reduceLE, ptr, Try.fa_95_0, Try.ld_87, Try.len_87, Try.ia_87, Try.fa_89_3, Try.ld_4, Try.fa_89_1, Try.ld_3, callV_func Try.enters_124, rs_tmp (show Try.f62.results = #[.tmp 6] from rfl)]
  generalize hgn : (fun e : E => decide (e.2.1.tmod 3 = rest)) = gn at *
  have hgx : ∀ e : E, gn e = decide (e.2.1.tmod 3 = rest) := fun e => by rw [← hgn]
  refine W_inv (fun m fr σ' => ∃ (t : Tr Value) (P R O : List E) (v' vo : Value), fr = ⟨48, t⟩ ∧ t.get 0 = some (pt q) ∧ t.get 1 = some (.int .i64 3) ∧ t.get 2 = some (.int .i64 rest) ∧ t.get 7 = some vo ∧ t.get 8 = some (.int .i64 (P.length : Int)) ∧ m = R.length ∧ KS (P ++ R) ∧ P.length + R.length + O.length = T.length ∧ O ++ sweepT R gn = sweepT T gn ∧ P ++ keptT R gn = keptT T gn ∧ RT σ' q v' (P ++ R) room ref ∧ (∀ b ∈ blks v', b ∈ blks v ∨ σ.next ≤ b) ∧ SlAt σ' 89 4 encE vo O ∧ (∀ b ∈ blks vo, σ.next ≤ b) ∧ (∀ b ∈ blks v', b ∉ blks vo) ∧ Same σ σ' [q]) T.length (by omega)
    ⟨_, [], T, [], v, .slice none 0 0, rfl, by simp [get_put, get_args], by simp [get_put, get_args], by simp [get_put, get_args], by simp [get_put], by simp [get_put], rfl, by simpa using hks, by simp, by simp, by simp, by simpa using h, (fun b hb => .inl hb), .inl ⟨rfl, rfl⟩, nofun, nofun, .refl _ _⟩ ?_
  rintro m fr σ1 ⟨t, P, R, O, v1, vo, rfl, t0, t1, t2, t7, t8, rfl, hkS, hlen, hO, hR, h1, hb1, hvo, hbo, hdis, hS1⟩
  have n1 := hS1.next
  have hl1 := h1.ld0
  obtain ⟨a, c, ev, hc⟩ := h1.sl.len
  rw [ev] at hl1
  have hPR : (P ++ R).length = P.length + R.length := List.length_append
  cases R with
  | nil =>
    have hlt' : ((P.length : Int) < ((P ++ ([] : List E)).length : Int)) = False := eq_false (by rw [hPR]; simp)
    simp (maxSteps := 2000000) only [B0, B1, B2, B3, B4, B5, B6, B7, Gd, extV, Nat.reduceLT, Nat.reduceEqDiff, Nat.reduceBEq, Nat.reduceAdd, Nat.reduceSub, Nat.reduceMul, ↓reduceIte, reduceCtorEq, if_true, if_false, ite_true, ite_false, Int.reduceLT, Int.reduceLE, ptr, Try.fa_95_0, Try.ld_87, Try.len_87, Try.ia_87, Try.fa_89_3, Try.ld_4, Try.fa_89_1, Try.ld_3, callV_func Try.enters_124, t0,  t1,  t2,  t7,  t8,  hl1,  hlt', rs_tmp (show Try.f62.results = #[.tmp 6] from rfl)]
    have e1 : sweepT ([] : List E) gn = [] := rfl
    have e2 : keptT ([] : List E) gn = [] := rfl
    rw [e1, List.append_nil] at hO
    rw [e2] at hR
    rw [hR] at h1
    exact hQ σ1 v1 vo h1 hb1 (hO ▸ hvo) hbo hS1
  | cons y R =>
    have hj : (P ++ y :: R)[P.length]? = some y := by simp
    have hjl : P.length < (P ++ y :: R).length := by simp
    have hlt' : ((P.length : Int) < ((P ++ y :: R).length : Int)) = True := eq_true (by omega)
    have hw1 : IntKind.i64.wrap ((P.length : Int) + 1) = ((P.length + 1 : Nat) : Int) := wrap64 (by omega) (by omega)
    have hRl : (y :: R).length = R.length + 1 := rfl
    obtain ⟨b, o, cap, g, e5, hcap, hbl, hr⟩ := h1.sl.at_ hj
    have y1 := hr.ld (j := 1) (v := .int .i64 y.2.1) hj rfl
    have y3 := hr.ld (j := 3) (v := .bool y.2.2.2) hj rfl
    rw [ev] at e5
    injection e5 with e5 _ e9
    subst e5 e9
    have keep : (!y.2.2.2 && gn y) = false → sweepT (y :: R) gn = sweepT R gn ∧ keptT (y :: R) gn = y :: keptT R gn := fun hk => by
      refine ⟨by unfold sweepT; rw [List.filter_cons_of_neg (by simp [hk])], by unfold keptT; rw [List.filter_cons_of_pos]; cases h1 : y.2.2.2 <;> cases h2 : gn y <;> simp [h1, h2] at hk ⊢⟩
    have back : (!y.2.2.2 && gn y) = false → O ++ sweepT R gn = sweepT T gn ∧ (P ++ [y]) ++ keptT R gn = keptT T gn := fun hk => by
      obtain ⟨q1, q2⟩ := keep hk
      rw [q1] at hO
      rw [q2] at hR
      exact ⟨hO, by rw [List.append_assoc]; exact hR⟩
    have hPy : (P ++ [y]) ++ R = P ++ y :: R := by simp
    have hPl : ((P ++ [y]).length : Int) = ((P.length + 1 : Nat) : Int) := by simp
    cases hst : y.2.2.2 with
    | true =>
      rw [hst] at y3
      obtain ⟨q1, q2⟩ := back (by simp [hst])
      simp (maxSteps := 2000000) only [B0, B1, B2, B3, B4, B5, B6, B7, Gd, extV, Nat.reduceLT, Nat.reduceEqDiff, Nat.reduceBEq, Nat.reduceAdd, Nat.reduceSub, Nat.reduceMul, ↓reduceIte, reduceCtorEq, if_true, if_false, ite_true, ite_false, Int.reduceLT, Int.reduceLE, ptr, Try.fa_95_0, Try.ld_87, Try.len_87, Try.ia_87, Try.fa_89_3, Try.ld_4, Try.fa_89_1, Try.ld_3, callV_func Try.enters_124, t0,  t1,  t2,  t7,  t8,  hl1,  hlt',  hjl,  y3,  hw1,  KInv_normal, rs_tmp (show Try.f62.results = #[.tmp 6] from rfl)]
      exact ⟨R.length, by omega, _, P ++ [y], R, O, v1, vo, rfl, by simp [get_put, t0], by simp [get_put, t1], by simp [get_put, t2], by simp [get_put, t7], by rw [hPl]; simp [get_put], rfl, by rw [hPy]; exact hkS, by simp; omega, q1, q2, by rw [hPy]; exact h1, hb1, hvo, hbo, hdis, hS1⟩
    | false =>
      rw [hst] at y3
      by_cases hg : y.2.1.tmod 3 = rest
      · have hg' : (y.2.1.tmod 3 = rest) = True := eq_true hg
        have hgy : gn y = true := by rw [hgx]; simpa using hg
        simp (maxSteps := 2000000) only [B0, B1, B2, B3, B4, B5, B6, B7, Gd, extV, Nat.reduceLT, Nat.reduceEqDiff, Nat.reduceBEq, Nat.reduceAdd, Nat.reduceSub, Nat.reduceMul, ↓reduceIte, reduceCtorEq, if_true, if_false, ite_true, ite_false, Int.reduceLT, Int.reduceLE, ptr, Try.fa_95_0, Try.ld_87, Try.len_87, Try.ia_87, Try.fa_89_3, Try.ld_4, Try.fa_89_1, Try.ld_3, callV_func Try.enters_124, t0,  t1,  t2,  t7,  t8,  hl1,  hlt',  hjl,  y3,  y1,  hrem,  hg', rs_tmp (show Try.f62.results = #[.tmp 6] from rfl)]
        refine rtake_run f h1 hkS hj (by omega) (by omega) fun σ2 v2 h2 hb2 hS2 => ?_
        have n2 := hS2.next
        have hqo : q ∉ blks vo := fun w => by have := hbo q w; omega
        have hvo2 := hvo.same hS2 (fun b hb w => by simp at w; exact hqo (w ▸ hb))
        have hvolt := hvo.lt
        obtain ⟨ao, co, rfl, hco⟩ := hvo2.len
        obtain ⟨σ6, v7, σ7, hbs, hap, hv7, hS7, hb7, hS6, hn7⟩ := append_one encEOk Try.underlying87 Try.underlying87 Try.elem_89 rfl (by decide) hvo2 y (xv := .agg #[.string y.1, .int .i64 y.2.1, .int .i64 y.2.2.1, .bool y.2.2.2]) rfl (by omega)
        have hde : delE y.1 (P ++ y :: R) = P ++ R := by rw [← erase_del hkS hj, List.eraseIdx_append_of_length_le (Nat.le_refl _), Nat.sub_self]; rfl
        rw [hde] at h2
        have hk2 : KS (P ++ R) := by rw [← hde]; exact hkS.del
        have h2lt := h2.sl.lt
        have q1 : sweepT (y :: R) gn = y :: sweepT R gn := by unfold sweepT; rw [List.filter_cons_of_pos (by simp [hst, hgy])]
        have q2 : keptT (y :: R) gn = keptT R gn := by unfold keptT; rw [List.filter_cons_of_neg (by simp [hst, hgy])]
        rw [q1] at hO
        rw [q2] at hR
        simp (maxSteps := 2000000) only [B0, B1, B2, B3, B4, B5, B6, B7, Gd, extV, Nat.reduceLT, Nat.reduceEqDiff, Nat.reduceBEq, Nat.reduceAdd, Nat.reduceSub, Nat.reduceMul, ↓reduceIte, reduceCtorEq, if_true, if_false, ite_true, ite_false, Int.reduceLT, Int.reduceLE, ptr, Try.fa_95_0, Try.ld_87, Try.len_87, Try.ia_87, Try.fa_89_3, Try.ld_4, Try.fa_89_1, Try.ld_3, callV_func Try.enters_124, t0,  t1,  t2,  t7,  t8,  enV,  hbs,  hap,  KInv_normal, rs_tmp (show Try.f62.results = #[.tmp 6] from rfl)]
        refine ⟨R.length, by omega, _, P, R, O ++ [y], v2, v7, rfl, by simp [get_put, t0], by simp [get_put, t1], by simp [get_put, t2], by simp [get_put], by simp [get_put, t8], rfl, hk2, by simp; omega, by rw [List.append_assoc, List.singleton_append]; exact hO, hR, h2.same hS7 hqo (fun b hb w => by have := hb2 b hb; have := hvolt b w; omega), (fun b hb => .inr (by have := hb2 b hb; omega)), hv7, (fun b hb => ?_), (fun b hb w => ?_), (((hS1.app hS2).app hS7).old fun b hb => ?_)⟩
        · rcases hb7 b hb with z | z
          · exact hbo b z
          · omega
        · have := hb2 b hb
          have := h2lt b hb
          rcases hb7 b w with z | z
          · have := hvolt b z; omega
          · omega
        · simp only [List.mem_append, List.mem_singleton] at hb
          rcases hb with (hb | hb) | hb
          · exact .inl (by simp [hb])
          · exact .inl (by simp [hb])
          · exact .inr (hbo b hb)
      · have hg' : (y.2.1.tmod 3 = rest) = False := eq_false hg
        have hgy : gn y = false := by rw [hgx]; simpa using hg
        obtain ⟨q1, q2⟩ := back (by simp [hgy])
        simp (maxSteps := 2000000) only [B0, B1, B2, B3, B4, B5, B6, B7, Gd, extV, Nat.reduceLT, Nat.reduceEqDiff, Nat.reduceBEq, Nat.reduceAdd, Nat.reduceSub, Nat.reduceMul, ↓reduceIte, reduceCtorEq, if_true, if_false, ite_true, ite_false, Int.reduceLT, Int.reduceLE, ptr, Try.fa_95_0, Try.ld_87, Try.len_87, Try.ia_87, Try.fa_89_3, Try.ld_4, Try.fa_89_1, Try.ld_3, callV_func Try.enters_124, t0,  t1,  t2,  t7,  t8,  hl1,  hlt',  hjl,  y3,  y1,  hrem,  hg',  hw1,  KInv_normal, rs_tmp (show Try.f62.results = #[.tmp 6] from rfl)]
        exact ⟨R.length, by omega, _, P ++ [y], R, O, v1, vo, rfl, by simp [get_put, t0], by simp [get_put, t1], by simp [get_put, t2], by simp [get_put, t7], by rw [hPl]; simp [get_put], rfl, by rw [hPy]; exact hkS, by simp; omega, q1, q2, by rw [hPy]; exact h1, hb1, hvo, hbo, hdis, hS1⟩
end Go.Proofs.Ytongccpmdndcgaa.Tab
end
/- The law's own turning of entries; rows of the document's entries compared. -/
section
set_option linter.all false
namespace Go.Proofs.Ytongccpmdndcgaa.Tab
open Go Go.AE Go.Proofs.Ytongccpmdndcgaa.Alm Go.Sort Go.Proofs
set_option maxRecDepth 100000
set_option maxHeartbeats 1000000
attribute [local irreducible] Go.AE.Tr.put Go.AE.Tr.get
variable {gs : List Nat} {orc : Orc} {n : Nat} {σ : AHeap} {Q : Value × AHeap → Prop}

theorem of_run (h54 : orc 54 = none) (x : E) (hQ : ∀ σ', Same σ σ' [] → Q (enV x, σ')) : W (acall Try.prog gs orc (n + 1) 54 [enV x] σ) Q := by
  obtain ⟨σ1, e1, hS1, v1, hn1⟩ := AE.oneVar σ 69 (encE x) false
  obtain ⟨σ2, e2, hS2, v2, hn2⟩ := AE.oneVar σ1 89 (encE zE) false
  have l1 : ldCells σ2 σ.next 0 4 = some (encE x) := (v1.same hS2 nofun).ldCells
  obtain ⟨σ3, t3, v3, hS3, hn3⟩ := v2.store (vs' := encE x) rfl (encEOk.single x)
  have l3 : ldCells σ3 σ1.next 0 4 = some (encE x) := v3.ldCells
  simp only [encE] at e1 e2 l1 t3 l3
  rw [W_start (m := 4) (keep := []) Try.func54 rfl (by kernel_rfl) (by kernel_rfl) (by first | rfl | assumption | exact f.h54) (by rfl)]
  simp (maxSteps := 2000000) only [B0, B1, B2, B3, B4, B5, B6, B7, Gd, extV, Nat.reduceLT, Nat.reduceEqDiff, Nat.reduceBEq, Nat.reduceAdd, Nat.reduceSub, Nat.reduceMul, ↓reduceIte, reduceCtorEq, if_true, if_false, ite_true, ite_false, Int.reduceLT, Int.reduceLE, ptr, allocV_zero Try.zero_89, Try.ld_69, Try.st_89, Try.ld_89, enV,  Value.cells,  e1,  e2,  l1,  t3,  l3,  List.size_toArray, rs_c (show Try.f54.results = #[.cell 2 89] from rfl)]
  exact hQ σ3 (((hS1.app hS2).app hS3).old fun b hb => by simp at hb; exact .inr (by omega))
theorem eqV_en89 (x y : E) : eqV Try.prog 89 (enV x) (enV y) = some (decide (x = y)) := by
  unfold enV
  rw [eqV_agg (fs := [_, _, _, _]) Try.underlying89 (by kernel_rfl) (by intro f hf; simp at hf; rcases hf with rfl | rfl | rfl | rfl <;> simp) rfl rfl]
  have ha : isAgg' Try.prog 9 = some false := by kernel_rfl
  have hb : isAgg' Try.prog 3 = some false := by kernel_rfl
  have hc : isAgg' Try.prog 2 = some false := by kernel_rfl
  have hd : isAgg' Try.prog 4 = some false := by kernel_rfl
  obtain ⟨x0, x1, x2, x3⟩ := x
  obtain ⟨y0, y1, y2, y3⟩ := y
  simp only [eqFs, part_cell ha (show #[Value.string x0, .int .i64 x1, .int .i64 x2, .bool x3][0]? = some (.string x0) from rfl), part_cell ha (show #[Value.string y0, .int .i64 y1, .int .i64 y2, .bool y3][0]? = some (.string y0) from rfl), part_cell hb (show #[Value.string x0, .int .i64 x1, .int .i64 x2, .bool x3][1]? = some (.int .i64 x1) from rfl), part_cell hb (show #[Value.string y0, .int .i64 y1, .int .i64 y2, .bool y3][1]? = some (.int .i64 y1) from rfl),
    part_cell hc (show #[Value.string x0, .int .i64 x1, .int .i64 x2, .bool x3][2]? = some (.int .i64 x2) from rfl), part_cell hc (show #[Value.string y0, .int .i64 y1, .int .i64 y2, .bool y3][2]? = some (.int .i64 y2) from rfl), part_cell hd (show #[Value.string x0, .int .i64 x1, .int .i64 x2, .bool x3][3]? = some (.bool x3) from rfl), part_cell hd (show #[Value.string y0, .int .i64 y1, .int .i64 y2, .bool y3][3]? = some (.bool y3) from rfl),
    eq_str Try.underlying9, eq_int Try.underlying3, eq_int Try.underlying2, eq_bool Try.underlying4, Prod.mk.injEq]
  by_cases h0 : x0 = y0 <;> by_cases h1 : x1 = y1 <;> by_cases h2 : x2 = y2 <;> by_cases h3 : x3 = y3 <;> simp [h0, h1, h2, h3]
theorem bin_en89 {u z : Operand} {a : ByteArray} {b c : Int} {d : Bool} : bin Try.prog .eql 89 u z (.agg #[.string a, .int .i64 b, .int .i64 c, .bool d]) (.agg #[.string a, .int .i64 b, .int .i64 c, .bool d]) = some (.bool true) := by
  have := bin_agg (P := Try.prog) (t := 89) (x := u) (y := z) (by kernel_rfl) (eqV_en89 (a, b, c, d) (a, b, c, d))
  simpa [enV] using this
theorem bin_en89_ne {u z : Operand} {a : ByteArray} {b c : Int} {d : Bool} : bin Try.prog .neq 89 u z (.agg #[.string a, .int .i64 b, .int .i64 c, .bool d]) (.agg #[.string a, .int .i64 b, .int .i64 c, .bool d]) = some (.bool false) := by
  have := bin_agg_ne (P := Try.prog) (t := 89) (x := u) (y := z) (by kernel_rfl) (eqV_en89 (a, b, c, d) (a, b, c, d))
  simpa [enV] using this
/-- Rows that are alike are found alike. -/
theorem equal89_run (ho : orc 59 = none) {va vb : Value} {A : List E} (ha : SlR σ 4 encE va A) (hb : SlR σ 4 encE vb A) (hn : A.length < n) (hN : A.length ≤ 1048576)
    (hQ : Q (.bool true, σ)) : W (acall Try.prog gs orc (n + 1) 59 [va, vb] σ) Q := by
  obtain ⟨a, c, rfl⟩ := ha.len
  obtain ⟨a', c', rfl⟩ := hb.len
  rw [W_start (m := 26) (keep := []) Try.func59 rfl (by kernel_rfl) (by kernel_rfl) (by first | rfl | assumption | exact f.h59) (by rfl)]
  simp (maxSteps := 2000000) only [B0, B1, B2, B3, B4, B5, B6, B7, Gd, extV, Nat.reduceLT, Nat.reduceEqDiff, Nat.reduceBEq, Nat.reduceAdd, Nat.reduceSub, Nat.reduceMul, ↓reduceIte, reduceCtorEq, if_true, if_false, ite_true, ite_false, Int.reduceLT, Int.reduceLE, ptr, Try.len_87, Try.ia_87, Try.ld_89, rs_tmp (show Try.f59.results = #[.tmp 4] from rfl)]
  refine W_inv (fun m fr σ' => σ' = σ ∧ ∃ (t : Tr Value) (i : Nat), fr = ⟨26, t⟩ ∧ t.get 0 = some (.slice a A.length c) ∧ t.get 1 = some (.slice a' A.length c') ∧ t.get 12 = some (.int .i64 (A.length : Int)) ∧ t.get 13 = some (.int .i64 (i : Int)) ∧ m + i = A.length) A.length (by omega)
    ⟨rfl, _, 0, rfl, by simp [get_put, get_args], by simp [get_put, get_args], by simp [get_put], by simp [get_put], rfl⟩ ?_
  rintro m fr σ1 ⟨rfl, t, i, rfl, t0, t1, t12, t13, hm⟩
  by_cases hlt : i < A.length
  · have hx := List.getElem?_eq_getElem hlt
    generalize A[i] = x at hx
    obtain ⟨b, o, cap, e, hbl, l1⟩ := ha.at_ hx
    injection e with e _ e3
    subst e e3
    obtain ⟨b2, o2, cap2, e, hbl2, l2⟩ := hb.at_ hx
    injection e with e _ e3
    subst e e3
    simp only [encE] at l1 l2
    have hlt' : (i : Int) < (A.length : Int) := by omega
    have hw1 : IntKind.i64.wrap ((i : Int) + 1) = ((i + 1 : Nat) : Int) := wrap64 (by omega) (by omega)
    simp (maxSteps := 2000000) only [B0, B1, B2, B3, B4, B5, B6, B7, Gd, extV, Nat.reduceLT, Nat.reduceEqDiff, Nat.reduceBEq, Nat.reduceAdd, Nat.reduceSub, Nat.reduceMul, ↓reduceIte, reduceCtorEq, if_true, if_false, ite_true, ite_false, Int.reduceLT, Int.reduceLE, ptr, Try.len_87, Try.ia_87, Try.ld_89, t0,  t1,  t12,  t13,  hlt',  hlt,  l1,  l2,  bin_en89_ne,  hw1,  KInv_normal, rs_tmp (show Try.f59.results = #[.tmp 4] from rfl)]
    exact ⟨A.length - (i + 1), by omega, _, i + 1, rfl, by simp [get_put, t0], by simp [get_put, t1], by simp [get_put, t12], by simp [get_put], by omega⟩
  · have hlt' : ((i : Int) < (A.length : Int)) = False := eq_false (by omega)
    simp (maxSteps := 2000000) only [B0, B1, B2, B3, B4, B5, B6, B7, Gd, extV, Nat.reduceLT, Nat.reduceEqDiff, Nat.reduceBEq, Nat.reduceAdd, Nat.reduceSub, Nat.reduceMul, ↓reduceIte, reduceCtorEq, if_true, if_false, ite_true, ite_false, Int.reduceLT, Int.reduceLE, ptr, Try.len_87, Try.ia_87, Try.ld_89, t0,  t1,  t12,  t13,  hlt', rs_tmp (show Try.f59.results = #[.tmp 4] from rfl)]
    exact hQ
theorem all52_run (h52 : orc 52 = none) (h54 : orc 54 = none) {va : Value} {A : List E} (ha : SlR σ 4 encE va A) (hn : A.length < n) (hN : A.length ≤ 1000000)
    (hQ : ∀ σ' vo, SlAt σ' 89 4 encE vo A → (∀ b ∈ blks vo, σ.next ≤ b) → Same σ σ' [] → Q (vo, σ')) : W (acall Try.prog gs orc (n + 2) 52 [va] σ) Q := by
  obtain ⟨a, c, rfl⟩ := ha.len
  rw [W_start (m := 19) (keep := []) Try.func52 rfl (by kernel_rfl) (by kernel_rfl) (by first | rfl | assumption | exact f.h52) (by rfl)]
  simp (maxSteps := 2000000) only [B0, B1, B2, B3, B4, B5, B6, B7, Gd, extV, Nat.reduceLT, Nat.reduceEqDiff, Nat.reduceBEq, Nat.reduceAdd, Nat.reduceSub, Nat.reduceMul, ↓reduceIte, reduceCtorEq, if_true, if_false, ite_true, ite_false, Int.reduceLT, Int.reduceLE, ptr, Try.len_66, Try.ia_66, Try.ld_69, allocV_zero Try.zero_69, Try.st_69, callV_func Try.enters_54, rs_tmp (show Try.f52.results = #[.tmp 2] from rfl)]
  refine W_inv (fun m fr σ' => ∃ (t : Tr Value) (i : Nat) (vo : Value), fr = ⟨19, t⟩ ∧ t.get 3 = some vo ∧ t.get 6 = some (.slice a A.length c) ∧ t.get 7 = some (.int .i64 (A.length : Int)) ∧ t.get 8 = some (.int .i64 (i : Int)) ∧ m + i = A.length ∧ SlAt σ' 89 4 encE vo (A.take i) ∧ (∀ b ∈ blks vo, σ.next ≤ b) ∧ Same σ σ' []) A.length (by omega)
    ⟨_, 0, .slice none 0 0, rfl, by simp [get_put], by simp [get_put, get_args], by simp [get_put], by simp [get_put], rfl, .inl ⟨rfl, by simp⟩, nofun, .refl _ _⟩ ?_
  rintro m fr σ1 ⟨t, i, vo, rfl, t3, t6, t7, t8, hm, hvo, hbo, hS1⟩
  have n1 := hS1.next
  by_cases hlt : i < A.length
  · have hx := List.getElem?_eq_getElem hlt
    have htk : A.take (i + 1) = A.take i ++ [A[i]] := by rw [List.take_add_one, hx]; rfl
    generalize A[i] = x at hx htk
    have htl : (A.take i).length = i := by rw [List.length_take]; omega
    obtain ⟨b, o, cap, e, hbl, l1⟩ := (ha.same hS1 nofun).at_ hx
    injection e with e _ e3
    subst e e3
    obtain ⟨σ2, σ3, e2, t3', hS3, v3, hn3, _⟩ := AE.newVar σ1 69 (encE zE) (encE x) rfl (encEOk.single x)
    have l3 : ldCells σ3 σ1.next 0 4 = some (encE x) := v3.ldCells
    simp only [encE] at l1 e2 t3' l3
    have hlt' : (i : Int) < (A.length : Int) := by omega
    have hw1 : IntKind.i64.wrap ((i : Int) + 1) = ((i + 1 : Nat) : Int) := wrap64 (by omega) (by omega)
    simp (maxSteps := 2000000) only [B0, B1, B2, B3, B4, B5, B6, B7, Gd, extV, Nat.reduceLT, Nat.reduceEqDiff, Nat.reduceBEq, Nat.reduceAdd, Nat.reduceSub, Nat.reduceMul, ↓reduceIte, reduceCtorEq, if_true, if_false, ite_true, ite_false, Int.reduceLT, Int.reduceLE, ptr, Try.len_66, Try.ia_66, Try.ld_69, allocV_zero Try.zero_69, Try.st_69, callV_func Try.enters_54, t3,  t6,  t7,  t8,  hlt',  hlt,  l1,  e2,  t3',  Value.cells,  List.size_toArray,  l3, rs_tmp (show Try.f52.results = #[.tmp 2] from rfl)]
    refine of_run h54 x fun σ4 hS4 => ?_
    have hS14 := hS3.trans hS4 nofun
    have hvo4 := hvo.same hS14 nofun
    have n4 := hS14.next
    obtain ⟨ao, co, rfl, hco⟩ := hvo4.len
    obtain ⟨σ6, v7, σ7, hbs, hap, hv7, hS7, hb7, hS6, hn7⟩ := append_one encEOk Try.underlying87 Try.underlying87 Try.elem_89 rfl (by decide) hvo4 x (xv := .agg #[.string x.1, .int .i64 x.2.1, .int .i64 x.2.2.1, .bool x.2.2.2]) rfl (by omega)
    rw [← htk] at hv7
    simp (maxSteps := 2000000) only [B0, B1, B2, B3, B4, B5, B6, B7, Gd, extV, Nat.reduceLT, Nat.reduceEqDiff, Nat.reduceBEq, Nat.reduceAdd, Nat.reduceSub, Nat.reduceMul, ↓reduceIte, reduceCtorEq, if_true, if_false, ite_true, ite_false, Int.reduceLT, Int.reduceLE, ptr, Try.len_66, Try.ia_66, Try.ld_69, allocV_zero Try.zero_69, Try.st_69, callV_func Try.enters_54, t3,  t6,  t7,  t8,  enV,  hbs,  hap,  hw1,  KInv_normal, rs_tmp (show Try.f52.results = #[.tmp 2] from rfl)]
    exact ⟨A.length - (i + 1), by omega, _, i + 1, v7, rfl, by simp [get_put], by simp [get_put, t6], by simp [get_put, t7], by simp [get_put], by omega, hv7, (fun b hb => by rcases hb7 b hb with w | w; exact hbo b w; omega), (((hS1.trans hS14 nofun).app hS7).old fun b hb => by simp only [List.nil_append] at hb; exact .inr (hbo b hb))⟩
  · have hlt' : ((i : Int) < (A.length : Int)) = False := eq_false (by omega)
    rw [List.take_of_length_le (by omega)] at hvo
    simp (maxSteps := 2000000) only [B0, B1, B2, B3, B4, B5, B6, B7, Gd, extV, Nat.reduceLT, Nat.reduceEqDiff, Nat.reduceBEq, Nat.reduceAdd, Nat.reduceSub, Nat.reduceMul, ↓reduceIte, reduceCtorEq, if_true, if_false, ite_true, ite_false, Int.reduceLT, Int.reduceLE, ptr, Try.len_66, Try.ia_66, Try.ld_69, allocV_zero Try.zero_69, Try.st_69, callV_func Try.enters_54, t3,  t6,  t7,  t8,  hlt', rs_tmp (show Try.f52.results = #[.tmp 2] from rfl)]
    exact hQ σ1 vo hvo hbo hS1
/-- The test of values: one by three. -/
theorem third_run (h61 : orc 61 = none) (x : E) {b : Nat} {r : Int} (hv : VarAt σ b [.int .i64 r]) (hQ : ∀ σ', Same σ σ' [] → Q (.bool (decide (x.2.1.tmod 3 = r)), σ')) : W (acall Try.prog gs orc (n + 1) 61 [enV x, pt b] σ) Q := by
  obtain ⟨σ1, e1, hS1, v1, hn1⟩ := AE.oneVar σ 69 (encE x) false
  have x1 : ld σ1 σ.next 1 = some (.int .i64 x.2.1) := v1.ld rfl
  have y0 : ld σ1 b 0 = some (.int .i64 r) := (hv.same hS1 nofun).ld rfl
  have hrem : ∀ {x y} {a : Int}, bin Try.prog .rem 3 x y (.int .i64 a) (.int .i64 3) = some (.int .i64 (a.tmod 3)) := by intro x y a; rw [bin_rem (by decide)]
  simp only [encE] at e1
  rw [W_start (m := 9) (keep := []) Try.func61 rfl (by kernel_rfl) (by kernel_rfl) (by first | rfl | assumption | exact f.h61) (by rfl)]
  simp (maxSteps := 2000000) only [B0, B1, B2, B3, B4, B5, B6, B7, Gd, extV, Nat.reduceLT, Nat.reduceEqDiff, Nat.reduceBEq, Nat.reduceAdd, Nat.reduceSub, Nat.reduceMul, ↓reduceIte, reduceCtorEq, if_true, if_false, ite_true, ite_false, Int.reduceLT, Int.reduceLE, ptr, Try.fa_69_1, Try.ld_3, enV,  Value.cells,  e1,  x1,  y0,  hrem, rs_tmp (show Try.f61.results = #[.tmp 3] from rfl)]
  exact hQ σ1 hS1
end Go.Proofs.Ytongccpmdndcgaa.Tab
end
/- Both tables beside each other, and a twin that stays. -/
section
set_option linter.all false
namespace Go.Proofs.Ytongccpmdndcgaa.Tab
open Go Go.AE Go.Proofs.Ytongccpmdndcgaa.Alm Go.Sort Go.Proofs
set_option maxRecDepth 100000
set_option maxHeartbeats 1000000
variable {gs : List Nat} {orc : Orc} {n : Nat} {σ : AHeap} {Q : Value × AHeap → Prop}
variable {p q room : Nat} {F : List Nat} {v : Value} {T : List E} {ref : Bool} {x11 x12 : Value}

/-- The twin and what was kept of it, if any. -/
def Tw (σ : AHeap) (F : List Nat) (q : Nat) (v x11 x12 : Value) : Prop :=
  (x11 = .pointer none ∧ x12 = .slice none 0 0) ∨ ∃ p2 F2 T2 room ref, x11 = pt p2 ∧ TAt σ p2 F2 T2 room ref ∧ SlAt σ 89 4 encE x12 T2 ∧ (∀ b ∈ F2, b ∉ F ∧ b ≠ q ∧ b ∉ blks v) ∧ ∀ b ∈ blks x12, b ∉ F ∧ b ≠ q ∧ b ∉ blks v
theorem Tw.step {σ1 σ2 : AHeap} {G F' : List Nat} {v' : Value} (h : Tw σ1 F q v x11 x12) (hS : Same σ1 σ2 G) (hG : ∀ b ∈ G, b ∈ F ∨ b = q ∨ b ∈ blks v ∨ σ1.next ≤ b) (hF : ∀ b ∈ F', b ∈ F ∨ σ1.next ≤ b) (hv : ∀ b ∈ blks v', b ∈ blks v ∨ σ1.next ≤ b) : Tw σ2 F' q v' x11 x12 := by
  rcases h with h | ⟨p2, F2, T2, room, ref, rfl, h1, h2, h3, h4⟩
  · exact .inl h
  · have l1 := h1.low
    have l2 := h2.lt
    refine .inr ⟨p2, F2, T2, room, ref, rfl, h1.same hS fun b hb w => ?_, h2.same hS fun b hb w => ?_, fun b hb => ⟨fun w => ?_, (h3 b hb).2.1, fun w => ?_⟩, fun b hb => ⟨fun w => ?_, (h4 b hb).2.1, fun w => ?_⟩⟩
    · have := l1 b hb; have := h3 b hb
      rcases hG b w with z | z | z | z
      · exact this.1 z
      · exact this.2.1 z
      · exact this.2.2 z
      · omega
    · have := l2 b hb; have := h4 b hb
      rcases hG b w with z | z | z | z
      · exact this.1 z
      · exact this.2.1 z
      · exact this.2.2 z
      · omega
    · have := l1 b hb
      rcases hF b w with z | z
      · exact (h3 b hb).1 z
      · omega
    · have := l1 b hb
      rcases hv b w with z | z
      · exact (h3 b hb).2.2 z
      · omega
    · have := l2 b hb
      rcases hF b w with z | z
      · exact (h4 b hb).1 z
      · omega
    · have := l2 b hb
      rcases hv b w with z | z
      · exact (h4 b hb).2.2 z
      · omega
structure Pl (σ σ' : AHeap) (p : Nat) (F : List Nat) (q : Nat) (v : Value) (T : List E) (room : Nat) (ref : Bool) (x11 x12 : Value) : Prop where
  own : Own σ σ' p F T room ref
  r : RT σ' q v T room ref
  qF : q ∉ F
  vF : ∀ b ∈ blks v, b ∉ F
  ql : σ.next ≤ q
  vl : ∀ b ∈ blks v, σ.next ≤ b
  tw : Tw σ' F q v x11 x12
theorem Pl.step {σ1 σ2 : AHeap} (w : Pl σ σ1 p F q v T room ref x11 x12) (hS : Same σ1 σ2 []) : Pl σ σ2 p F q v T room ref x11 x12 :=
  ⟨w.own.step hS, w.r.same hS nofun nofun, w.qF, w.vF, w.ql, w.vl, w.tw.step hS nofun (fun b hb => .inl hb) (fun b hb => .inl hb)⟩
/-- A call on each. -/
theorem Pl.both {σ1 σ2 σ3 : AHeap} {F' : List Nat} {v' : Value} {T' : List E} (w : Pl σ σ1 p F q v T room ref x11 x12) (h : TAt σ2 p F' T' room ref) (hF : ∀ b ∈ F', b ∈ F ∨ σ1.next ≤ b) (hS : Same σ1 σ2 F)
    (hr : RT σ3 q v' T' room ref) (hv : ∀ b ∈ blks v', b ∈ blks v ∨ σ2.next ≤ b) (hS3 : Same σ2 σ3 (q :: blks v)) : Pl σ σ3 p F' q v' T' room ref x11 x12 := by
  have n1 := w.own.same.next
  have n2 := hS.next
  have q1 := w.r.obj.1
  have v1 := w.r.sl.lt
  have hlow := h.low
  have hqF : q ∉ F' := fun e => by rcases hF q e with z | z; exact w.qF z; omega
  have hvF : ∀ b ∈ blks v, b ∉ F' := fun b hb e => by rcases hF b e with z | z; exact w.vF b hb z; have := v1 b hb; omega
  have hh3 : TAt σ3 p F' T' room ref := h.same hS3 fun b hb e => by
    rcases List.mem_cons.1 e with rfl | e
    · exact hqF hb
    · exact hvF b e hb
  have hsm : Same σ σ3 [] := ((w.own.same.app hS).app hS3).old fun b hb => by
    simp only [List.nil_append, List.mem_append, List.mem_cons] at hb
    rcases hb with z | z | z
    · exact .inr (w.own.low b z)
    · subst z; exact .inr w.ql
    · exact .inr (w.vl b z)
  refine ⟨⟨hh3, fun b hb => ?_, hsm⟩, hr, hqF, fun b hb e => ?_, w.ql, fun b hb => ?_, ?_⟩
  · rcases hF b hb with z | z
    · exact w.own.low b z
    · omega
  · rcases hv b hb with z | z
    · exact hvF b z e
    · have := hlow b e; omega
  · rcases hv b hb with z | z
    · exact w.vl b z
    · omega
  · refine w.tw.step (hS.app hS3) (fun b hb => ?_) hF fun b hb => ?_
    · simp only [List.mem_append, List.mem_cons] at hb
      rcases hb with z | z | z
      · exact .inl z
      · exact .inr (.inl z)
      · exact .inr (.inr (.inl z))
    · rcases hv b hb with z | z
      · exact .inl z
      · exact .inr (by omega)
/-- A variable beside them, written by none of their calls. -/
structure VarP (σ : AHeap) (F : List Nat) (q : Nat) (v : Value) (b : Nat) (vs : List Value) : Prop where
  at_ : VarAt σ b vs
  nF : b ∉ F
  nq : b ≠ q
  nv : b ∉ blks v
theorem VarP.call {σ1 σ2 : AHeap} {G F' : List Nat} {v' : Value} {b : Nat} {vs : List Value} (w : VarP σ1 F q v b vs) (hS : Same σ1 σ2 G) (hG : ∀ c ∈ G, c ∈ F ∨ c = q ∨ c ∈ blks v ∨ σ1.next ≤ c) (hF : ∀ c ∈ F', c ∈ F ∨ σ1.next ≤ c) (hv : ∀ c ∈ blks v', c ∈ blks v ∨ σ1.next ≤ c) : VarP σ2 F' q v' b vs := by
  have := w.at_.1
  refine ⟨w.at_.same hS fun z => ?_, fun z => ?_, w.nq, fun z => ?_⟩
  · rcases hG b z with y | y | y | y
    · exact w.nF y
    · exact w.nq y
    · exact w.nv y
    · omega
  · rcases hF b z with y | y
    · exact w.nF y
    · omega
  · rcases hv b z with y | y
    · exact w.nv y
    · omega
theorem Pl.var {σ1 : AHeap} (w : Pl σ σ1 p F q v T room ref x11 x12) (t : TypeId) (zs vs : List Value) (hl : vs.length = zs.length) (hs : ∀ v ∈ vs, single v = true) :
    ∃ σ2 σ3, (newCells σ1 t zs).2 = σ2 ∧ stCells σ2 σ1.next 0 vs = some σ3 ∧ Pl σ σ3 p F q v T room ref x11 x12 ∧ VarP σ3 F q v σ1.next vs ∧ Same σ1 σ3 [] := by
  obtain ⟨σ2, σ3, e2, t3, hS, hv, hn, _⟩ := AE.newVar σ1 t zs vs hl hs
  refine ⟨σ2, σ3, e2, t3, w.step hS, ⟨hv, fun z => by have := w.own.h.low _ z; omega, fun z => by have := w.r.obj.1; omega, fun z => by have := w.r.sl.lt _ z; omega⟩, hS⟩
end Go.Proofs.Ytongccpmdndcgaa.Tab
end
