/- Texts of this proof, gathered. What each part says stands at its head; conditions: none but those that its theorems name. -/
import Derived.Test.YtongccpmdndcgaaDoorIca
/- Messages, and how they are put. -/
section
set_option linter.all false
namespace Go.Proofs.YtongccpmdndcgaaDoor.Icm
open Go Go.AE Go.Proofs
set_option maxRecDepth 100000
set_option maxHeartbeats 1000000
attribute [local irreducible] Go.AE.Tr.put Go.AE.Tr.get
variable {gs : List Nat} {orc : Orc} {n : Nat} {σ : AHeap} {Q : Value × AHeap → Prop}

structure Mg where
  (ty co r0 r1 r2 r3 : Nat) (B : List Nat)
structure Mg.ok (m : Mg) : Prop where
  (ty : m.ty < 256) (co : m.co < 256) (r0 : m.r0 < 256) (r1 : m.r1 < 256) (r2 : m.r2 < 256) (r3 : m.r3 < 256) (by_ : Byt m.B) (len : m.B.length ≤ 200)
def msgL (m : Mg) (v : Value) : List Value := [.int .u8 (m.ty : Int), .int .u8 (m.co : Int), .int .u8 (m.r0 : Int), .int .u8 (m.r1 : Int), .int .u8 (m.r2 : Int), .int .u8 (m.r3 : Int), v]
def rawM (m : Mg) : List Nat := [m.ty, m.co, 0, 0, m.r0, m.r1, m.r2, m.r3] ++ m.B
def putM (m : Mg) : List Nat := ((rawM m).set 2 (sumN (rawM m) / 256)).set 3 (sumN (rawM m) % 256)
theorem msg_single {m : Mg} {a : Option Addr} {l c : Nat} : ∀ v ∈ msgL m (.slice a l c), single v = true := by
  intro v hv
  simp [msgL] at hv
  rcases hv with rfl | rfl | rfl | rfl | rfl | rfl | rfl <;> rfl
theorem msg_size {m : Mg} {v : Value} : (msgL m v).toArray.size = 7 := rfl
theorem msg_list {m : Mg} {v : Value} : (msgL m v).toArray.toList = msgL m v := rfl
theorem rawM_byt {m : Mg} (h : m.ok) : Byt (rawM m) := by
  intro b hb
  have := h.ty; have := h.co; have := h.r0; have := h.r1; have := h.r2; have := h.r3
  simp only [rawM, List.cons_append, List.nil_append, List.mem_cons] at hb
  rcases hb with rfl | rfl | rfl | rfl | rfl | rfl | rfl | rfl | hb <;> first | omega | exact h.by_ _ hb
theorem rawM_len {m : Mg} : (rawM m).length = 8 + m.B.length := by simp [rawM]; omega
theorem BAt.put {v : Value} {A : List Nat} (h : BAt σ v A) {i : Nat} (hi : i < A.length) (y : Nat) :
    ∃ b o cap σ', v = .slice (some ⟨b, o, none⟩) A.length cap ∧ stCells σ b (o + i) [.int .u8 (y : Int)] = some σ' ∧ BAt σ' v (A.set i y) ∧ Same σ σ' [b] ∧ σ'.next = σ.next := by
  obtain ⟨b, o, cap, g, e, hc, hb, hr⟩ := SlAt.at_ h (i := i) (gd_some hi)
  obtain ⟨o', t, h1, _⟩ := hr.put encBOk (i := i) (by omega) y
  refine ⟨b, o, cap, _, e, by rw [Nat.mul_one] at t; exact t, ?_, .set _ _ _, rfl⟩
  refine .inr (.inr ⟨b, o, cap, g, by rw [List.length_set]; exact e, by rw [List.length_set]; exact hc, hb, h1 hi⟩)
theorem slice_arr4 {b o : Nat} : sliceOp Tryd.prog 22 (.pointer (some ⟨b, o, none⟩)) none none none σ = some (.slice (some ⟨b, o, none⟩) 4 4) := by
  simp only [sliceOp, Tryd.underlying22, Tryd.size_5, bounds, lowB, sliceArr]
  rfl
theorem var_cells4 {b : Nat} {m : Mg} {v : Value} (h : VarAt σ b (msgL m v)) : firstCells' 1 4 σ (.slice (some ⟨b, 2, none⟩) 4 4) = some ([m.r0, m.r1, m.r2, m.r3].flatMap encB) := by
  obtain ⟨h0, n, c, e, g, h1, h2⟩ := h
  simp only [firstCells', AE.ldCells, h1]
  exact ldN_of [.int .u8 (m.r0 : Int), .int .u8 (m.r1 : Int), .int .u8 (m.r2 : Int), .int .u8 (m.r3 : Int)] 2 fun j v hj => h2 (2 + j) v (by
    have := (List.getElem?_eq_some_iff.1 hj).1
    simp at this
    rw [← hj]
    rcases (show j = 0 ∨ j = 1 ∨ j = 2 ∨ j = 3 by omega) with rfl | rfl | rfl | rfl <;> rfl)
theorem msg_zero25 : ([.int .u8 0, .int .u8 0, .int .u8 0, .int .u8 0, .int .u8 0, .int .u8 0, .slice none 0 0] : List Value) = msgL ⟨0, 0, 0, 0, 0, 0, []⟩ (.slice none 0 0) := rfl
theorem put6_run (f : FreeI orc) {m : Mg} {v : Value} (hm : m.ok) (hv : BAt σ v m.B) (hn : 250 < n)
    (hQ : ∀ σ' v', BAt σ' v' (putM m) → (∀ b ∈ blks v', σ.next ≤ b) → Same σ σ' [] → Q (.tuple #[v', .int .i64 0], σ')) :
    W (acall Tryd.prog gs orc (n + 2) 6 [.agg (msgL m v).toArray] σ) Q := by
  obtain ⟨a, c, rfl, hc⟩ := hv.len
  have hlen := hm.len
  obtain ⟨σ1, e1, hS1, v1, hn1⟩ := AE.oneVar σ 25 (msgL m (.slice a m.B.length c)) false
  have hv1 := SlAt.same hv hS1 nofun
  have l0 : ld σ1 σ.next 0 = some (.int .u8 (m.ty : Int)) := v1.ld rfl
  have l1 : ld σ1 σ.next 1 = some (.int .u8 (m.co : Int)) := v1.ld rfl
  have l6 : ld σ1 σ.next 6 = some (.slice a m.B.length c) := v1.ld rfl
  have hgt : ((65507 : Int) < (m.B.length : Int)) = False := eq_false (by omega)
  obtain ⟨σ2, e2, hS2, v2, hn2⟩ := AE.oneVar σ1 5 [.int .u8 (m.ty : Int), .int .u8 (m.co : Int), .int .u8 0, .int .u8 0] false
  have z2 : BAt σ2 (.slice (some ⟨σ1.next, 0, none⟩) 4 4) [m.ty, m.co, 0, 0] := by rw [← e2]; exact SlAt.new encBOk σ1 5 false [m.ty, m.co, 0, 0]
  have bs : buildSliceV Tryd.prog 23 4 [(0, .int .u8 (m.ty : Int)), (1, .int .u8 (m.co : Int)), (2, .int .u8 0), (3, .int .u8 0)] σ1 = some (.slice (some ⟨σ1.next, 0, none⟩) 4 4, σ2) := by rw [← e2]; exact buildSlice_of Tryd.underlying23 Tryd.elem_5 (by decide) rfl
  have v2' : VarAt σ2 σ.next (msgL m (.slice a m.B.length c)) := v1.same hS2 nofun
  obtain ⟨va, σ3, t3, hv3, hS3, hb3⟩ := append_spec encBOk z2 [m.r0, m.r1, m.r2, m.r3] (by simp)
  have t3' : appendCells 5 1 (some ⟨σ1.next, 0, none⟩) 4 4 4 ([m.r0, m.r1, m.r2, m.r3].flatMap encB) σ2 = some (va, σ3) := t3
  have v3 : VarAt σ3 σ.next (msgL m (.slice a m.B.length c)) := v2'.same hS3 (by simp [blks]; omega)
  obtain ⟨a3, c3, rfl, hc3⟩ := hv3.len
  have l63 : ld σ3 σ.next 6 = some (.slice a m.B.length c) := v3.ld rfl
  have hva3 : BAt σ3 (.slice a m.B.length c) m.B := SlAt.same (SlAt.same hv1 hS2 nofun) hS3 (fun b hb w => by have := SlAt.lt hv b hb; simp [blks] at w; omega)
  obtain ⟨v4, σ4, t4, hv4, hS4, hb4⟩ := append_spec encBOk hv3 m.B (by simp; omega)
  obtain ⟨a4, c4, rfl, hc4⟩ := hv4.len
  have hr4 : BAt σ4 (.slice a4 (rawM m).length c4) (rawM m) := hv4
  have t4' : appendCells 5 1 a3 8 c3 m.B.length (m.B.flatMap encB) σ3 = some (.slice a4 (rawM m).length c4, σ4) := t4
  rw [W_start (m := 34) (keep := [3]) Tryd.func6 rfl (by kernel_rfl) (by kernel_rfl) (by first | rfl | assumption | exact f.h6) (by rfl)]
  simp (maxSteps := 2000000) only [B0, B1, B2, B3, B4, B5, B6, B7, Gd, extV, Nat.reduceLT, Nat.reduceEqDiff, Nat.reduceBEq, Nat.reduceAdd, Nat.reduceSub, Nat.reduceMul, ↓reduceIte, reduceCtorEq, if_true, if_false, ite_true, ite_false, Int.reduceLT, Int.reduceLE, ptr, Tryd.fa_25_3, Tryd.ld_23, Tryd.len_23, Tryd.fa_25_0, Tryd.ld_5, Tryd.fa_25_1, Tryd.fa_25_2, callV_func Tryd.enters_21, Tryd.ia_23, Tryd.st_5, Value.cells,  msg_list,  msg_size,  e1,  l6,  hgt, rs_two (show Tryd.f6.results = #[.tmp 2,  .tmp 3] from rfl)]
  refine Eq.mpr (W_retold (ps := [(4, 6)]) (by kernel_rfl) (by kernel_rfl) (by simp)) ?_
  simp (maxSteps := 2000000) only [B0, B1, B2, B3, B4, B5, B6, B7, Gd, extV, Nat.reduceLT, Nat.reduceEqDiff, Nat.reduceBEq, Nat.reduceAdd, Nat.reduceSub, Nat.reduceMul, ↓reduceIte, reduceCtorEq, if_true, if_false, ite_true, ite_false, Int.reduceLT, Int.reduceLE, ptr, Tryd.fa_25_3, Tryd.ld_23, Tryd.len_23, Tryd.fa_25_0, Tryd.ld_5, Tryd.fa_25_1, Tryd.fa_25_2, callV_func Tryd.enters_21, Tryd.ia_23, Tryd.st_5, l0,  l1,  bs,  slice_arr4,  append_eq Tryd.underlying23 Tryd.underlying23 Tryd.elem_5 (var_cells4 v2'),  t3',  l63,  append_eq Tryd.underlying23 Tryd.underlying23 Tryd.elem_5 (hva3.first encBOk),  t4', rs_two (show Tryd.f6.results = #[.tmp 2,  .tmp 3] from rfl)]
  have hB := rawM_byt hm
  have hlr : (rawM m).length = 8 + m.B.length := rawM_len
  refine sum21_run f hr4 hB (by omega) (by omega) ?_
  have hs := f16_le (wt (rawM m) (rawM m).length)
  have hs2 : sumN (rawM m) = 65535 - f16 (wt (rawM m) (rawM m).length) := rfl
  obtain ⟨b, o, cap, σ5, e5, t5, hv5, hS5, hn5⟩ := BAt.put hr4 (i := 2) (by omega) (sumN (rawM m) / 256)
  injection e5 with e5 _ e6
  subst e5 e6
  obtain ⟨b', o', cap', σ6, e6, t6, hv6, hS6, hn6⟩ := BAt.put hv5 (i := 3) (by rw [List.length_set]; omega) (sumN (rawM m) % 256)
  injection e6 with e6 _ e7
  injection e6 with e6
  injection e6 with e6 e8
  subst e6 e7 e8
  have i2 : 2 < (rawM m).length := by omega
  have i3 : 3 < (rawM m).length := by omega
  have x2 : idx (.int .i64 2) (rawM m).length = some 2 := idx_at 2 i2
  have x3 : idx (.int .i64 3) (rawM m).length = some 3 := idx_at 3 i3
  have w1 : IntKind.u8.wrap ((sumN (rawM m) / 256 : Nat) : Int) = ((sumN (rawM m) / 256 : Nat) : Int) := by rw [wrapU8, Nat.mod_eq_of_lt (by omega)]
  have w2 : IntKind.u8.wrap ((sumN (rawM m) : Nat) : Int) = ((sumN (rawM m) % 256 : Nat) : Int) := by rw [wrapU8]
  simp (maxSteps := 2000000) only [B0, B1, B2, B3, B4, B5, B6, B7, Gd, extV, Nat.reduceLT, Nat.reduceEqDiff, Nat.reduceBEq, Nat.reduceAdd, Nat.reduceSub, Nat.reduceMul, ↓reduceIte, reduceCtorEq, if_true, if_false, ite_true, ite_false, Int.reduceLT, Int.reduceLE, ptr, Tryd.fa_25_3, Tryd.ld_23, Tryd.len_23, Tryd.fa_25_0, Tryd.ld_5, Tryd.fa_25_1, Tryd.fa_25_2, callV_func Tryd.enters_21, Tryd.ia_23, Tryd.st_5, shr8_16,  conv_int Tryd.underlying35 Tryd.underlying5,  w1,  w2,  x2,  x3,  Nat.mul_one,  t5,  t6,  Value.cells,  List.size_toArray, rs_two (show Tryd.f6.results = #[.tmp 2,  .tmp 3] from rfl)]
  have hbb : ∀ x ∈ blks (.slice (some ⟨b, o, none⟩) (rawM m).length c4), σ.next ≤ x := fun x hx => by
    rcases hb4 x hx with q | q
    · rcases hb3 x q with q | q
      · simp [blks] at q; omega
      · have := hS2.next; omega
    · have := hS2.next; have := hS3.next; omega
  have hbo : σ.next ≤ b := hbb b (by simp [blks])
  refine hQ σ6 _ hv6 hbb ((((((hS1.app hS2).app hS3).app hS4).app hS5).app hS6).old fun x hx => ?_)
  simp only [List.append_assoc, List.mem_append, List.mem_singleton, List.nil_append] at hx
  refine .inr ?_
  rcases hx with hx | hx | rfl | rfl
  · simp [blks] at hx; omega
  · rcases hb3 x hx with q | q
    · simp [blks] at q; omega
    · have := hS2.next; omega
  · exact hbo
  · exact hbo
end Go.Proofs.YtongccpmdndcgaaDoor.Icm
end
/- The kinds of messages and how they turn. -/
section
set_option linter.all false
namespace Go.Proofs.YtongccpmdndcgaaDoor.Icm
open Go Go.AE Go.Proofs
set_option maxRecDepth 100000
set_option maxHeartbeats 1000000
attribute [local irreducible] Go.AE.Tr.put Go.AE.Tr.get
variable {gs : List Nat} {orc : Orc} {n : Nat} {σ : AHeap} {Q : Value × AHeap → Prop}

def kindN (t : Nat) : Nat := if t = 3 ∨ t = 4 ∨ t = 5 ∨ t = 11 ∨ t = 12 then 1 else if t = 8 ∨ t = 13 ∨ t = 15 ∨ t = 17 then 2 else if t = 0 ∨ t = 14 ∨ t = 16 ∨ t = 18 then 3 else 0
/-- The global table of kinds, as it lies. -/
def Glb (σ : AHeap) : Prop := ∃ M es cl n c e g r, 0 < σ.next ∧ M < σ.next ∧ σ.get 0 = some (.cells n c e g r) ∧ c.get 0 = some (.map (some M)) ∧ σ.get M = some (.map es cl true) ∧
  ∀ (t : Nat) (σ' : AHeap), t < 256 → σ'.get M = some (.map es cl true) → lookup' Tryd.prog 53 (.map (some M)) (.int .u8 (t : Int)) false σ' = some (.int .i64 (kindN t : Int))
theorem Glb.same {σ' : AHeap} (h : Glb σ) (hS : Same σ σ' []) : Glb σ' := by
  obtain ⟨M, es, cl, n, c, e, g, r, h0, h1, h2, h3, h4, h5⟩ := h
  exact ⟨M, es, cl, n, c, e, g, r, Nat.lt_of_lt_of_le h0 hS.next, Nat.lt_of_lt_of_le h1 hS.next, by rw [hS.get 0 h0 nofun]; exact h2, h3, by rw [hS.get M h1 nofun]; exact h4, h5⟩
theorem Glb.at_ (h : Glb σ) : ∃ M, ld σ 0 0 = some (.map (some M)) ∧ ∀ t : Nat, t < 256 → lookup' Tryd.prog 53 (.map (some M)) (.int .u8 (t : Int)) false σ = some (.int .i64 (kindN t : Int)) := by
  obtain ⟨M, es, cl, n, c, e, g, r, h0, h1, h2, h3, h4, h5⟩ := h
  exact ⟨M, by simp only [AE.ld, h2]; exact h3, fun t ht => h5 t σ ht h4⟩
theorem eval_global {fr : AFr} {g : Nat} : fr.eval (.global g) = .pointer (some ⟨g, 0, none⟩) := rfl
theorem kind12_run (f : FreeI orc) {m : Mg} {v : Value} (hG : Glb σ) (hm : m.ty < 256) (hQ : ∀ σ', Same σ σ' [] → σ'.next = σ.next + 1 → Q (.int .i64 (kindN m.ty : Int), σ')) :
    W (acall Tryd.prog [0] orc (n + 1) 12 [.agg (msgL m v).toArray] σ) Q := by
  obtain ⟨σ1, e1, hS1, v1, hn1⟩ := AE.oneVar σ 25 (msgL m v) false
  obtain ⟨M, l0, lk⟩ := (hG.same hS1).at_
  have l1 : ld σ1 σ.next 0 = some (.int .u8 (m.ty : Int)) := v1.ld rfl
  have lk := lk m.ty hm
  rw [W_start (m := 7) (keep := []) Tryd.func12 rfl (by kernel_rfl) (by kernel_rfl) (by first | rfl | assumption | exact f.h12) (by rfl)]
  simp (maxSteps := 2000000) only [B0, B1, B2, B3, B4, B5, B6, B7, Gd, extV, Nat.reduceLT, Nat.reduceEqDiff, Nat.reduceBEq, Nat.reduceAdd, Nat.reduceSub, Nat.reduceMul, ↓reduceIte, reduceCtorEq, if_true, if_false, ite_true, ite_false, Int.reduceLT, Int.reduceLE, ptr, Tryd.ld_53, Tryd.fa_25_0, Tryd.ld_5, Value.cells,  msg_list,  msg_size,  e1,  eval_global,  l0,  l1,  lk, rs_tmp (show Tryd.f12.results = #[.tmp 2] from rfl)]
  exact hQ σ1 hS1 hn1
def backN (t : Nat) : Nat × Bool := if kindN t = 2 ∨ kindN t = 3 then (if t = 0 ∨ t = 8 then (8 - t, true) else if kindN t = 2 then (t + 1, true) else (t - 1, true)) else (0, false)
theorem kind_vals {t : Nat} (h : kindN t = 2 ∨ kindN t = 3) : t = 8 ∨ t = 13 ∨ t = 15 ∨ t = 17 ∨ t = 0 ∨ t = 14 ∨ t = 16 ∨ t = 18 := by
  unfold kindN at h
  repeat' split at h
  all_goals omega
theorem back8_run (f : FreeI orc) {m : Mg} {v : Value} (hG : Glb σ) (hm : m.ty < 256) (hn : 5 < n) {a : Option Addr} {l c : Nat} (hv : v = .slice a l c)
    (hQ : ∀ σ', Same σ σ' [] → Q (.tuple #[.int .u8 ((backN m.ty).1 : Int), .bool (backN m.ty).2], σ')) :
    W (acall Tryd.prog [0] orc (n + 2) 8 [.agg (msgL m v).toArray] σ) Q := by
  subst hv
  obtain ⟨σ1, e1, hS1, v1, hn1⟩ := AE.oneVar σ 25 (msgL m (.slice a l c)) false
  have hG1 := hG.same hS1
  have ll1 : ldCells σ1 σ.next 0 7 = some (msgL m (.slice a l c)) := v1.ldCells
  rw [W_start (m := 35) (keep := []) Tryd.func8 rfl (by kernel_rfl) (by kernel_rfl) (by first | rfl | assumption | exact f.h8) (by rfl)]
  simp (maxSteps := 2000000) only [B0, B1, B2, B3, B4, B5, B6, B7, Gd, extV, Nat.reduceLT, Nat.reduceEqDiff, Nat.reduceBEq, Nat.reduceAdd, Nat.reduceSub, Nat.reduceMul, ↓reduceIte, reduceCtorEq, if_true, if_false, ite_true, ite_false, Int.reduceLT, Int.reduceLE, ptr, Tryd.ld_25, callV_func Tryd.enters_12, Tryd.fa_25_0, Tryd.ld_5, Value.cells,  msg_list,  msg_size,  e1,  ll1, rs_two (show Tryd.f8.results = #[.tmp 2,  .tmp 3] from rfl)]
  refine kind12_run f hG1 hm fun σ2 hS2 hn2 => ?_
  have v2 := v1.same hS2 nofun
  have hG2 := hG1.same hS2
  have ll2 : ldCells σ2 σ.next 0 7 = some (msgL m (.slice a l c)) := v2.ldCells
  have l2 : ld σ2 σ.next 0 = some (.int .u8 (m.ty : Int)) := v2.ld rfl
  have hS12 := hS1.app hS2
  have r0 : IntKind.u8.wrap (8 - 8) = 0 := by decide
  have r1 : IntKind.u8.wrap (13 + 1) = 14 := by decide
  have r2 : IntKind.u8.wrap (15 + 1) = 16 := by decide
  have r3 : IntKind.u8.wrap (17 + 1) = 18 := by decide
  have r4 : IntKind.u8.wrap (8 - 0) = 8 := by decide
  have r5 : IntKind.u8.wrap (14 - 1) = 13 := by decide
  have r6 : IntKind.u8.wrap (16 - 1) = 15 := by decide
  have r7 : IntKind.u8.wrap (18 - 1) = 17 := by decide
  by_cases k2 : kindN m.ty = 2
  · have hv := kind_vals (.inl k2)
    rcases hv with h | h | h | h | h | h | h | h
    · rw [show backN m.ty = (0, true) by rw [h]; rfl] at hQ
      rw [h] at l2
      have l3 := l2
      rw [k2]
      simp (maxSteps := 2000000) only [B0, B1, B2, B3, B4, B5, B6, B7, Gd, extV, Nat.reduceLT, Nat.reduceEqDiff, Nat.reduceBEq, Nat.reduceAdd, Nat.reduceSub, Nat.reduceMul, ↓reduceIte, reduceCtorEq, if_true, if_false, ite_true, ite_false, Int.reduceLT, Int.reduceLE, ptr, Tryd.ld_25, callV_func Tryd.enters_12, Tryd.fa_25_0, Tryd.ld_5, Int.cast_ofNat_Int,  Int.reduceEq,  ll2,  l2,  l3,  r0,  r1,  r2,  r3,  r4,  r5,  r6,  r7, rs_two (show Tryd.f8.results = #[.tmp 2,  .tmp 3] from rfl)]
      exact hQ σ2 hS12
    · rw [show backN m.ty = (14, true) by rw [h]; rfl] at hQ
      rw [h] at l2
      have l3 := l2
      rw [k2]
      simp (maxSteps := 2000000) only [B0, B1, B2, B3, B4, B5, B6, B7, Gd, extV, Nat.reduceLT, Nat.reduceEqDiff, Nat.reduceBEq, Nat.reduceAdd, Nat.reduceSub, Nat.reduceMul, ↓reduceIte, reduceCtorEq, if_true, if_false, ite_true, ite_false, Int.reduceLT, Int.reduceLE, ptr, Tryd.ld_25, callV_func Tryd.enters_12, Tryd.fa_25_0, Tryd.ld_5, Int.cast_ofNat_Int,  Int.reduceEq,  ll2,  l2,  l3,  r0,  r1,  r2,  r3,  r4,  r5,  r6,  r7, rs_two (show Tryd.f8.results = #[.tmp 2,  .tmp 3] from rfl)]
      refine kind12_run f hG2 hm fun σ3 hS3 hn3 => ?_
      have v3 := v2.same hS3 nofun
      have l3 : ld σ3 σ.next 0 = some (.int .u8 (m.ty : Int)) := v3.ld rfl
      rw [h] at l3
      rw [k2]
      simp (maxSteps := 2000000) only [B0, B1, B2, B3, B4, B5, B6, B7, Gd, extV, Nat.reduceLT, Nat.reduceEqDiff, Nat.reduceBEq, Nat.reduceAdd, Nat.reduceSub, Nat.reduceMul, ↓reduceIte, reduceCtorEq, if_true, if_false, ite_true, ite_false, Int.reduceLT, Int.reduceLE, ptr, Tryd.ld_25, callV_func Tryd.enters_12, Tryd.fa_25_0, Tryd.ld_5, Int.cast_ofNat_Int,  Int.reduceEq,  ll2,  l2,  l3,  r0,  r1,  r2,  r3,  r4,  r5,  r6,  r7, rs_two (show Tryd.f8.results = #[.tmp 2,  .tmp 3] from rfl)]
      exact hQ σ3 (hS12.app hS3)
    · rw [show backN m.ty = (16, true) by rw [h]; rfl] at hQ
      rw [h] at l2
      have l3 := l2
      rw [k2]
      simp (maxSteps := 2000000) only [B0, B1, B2, B3, B4, B5, B6, B7, Gd, extV, Nat.reduceLT, Nat.reduceEqDiff, Nat.reduceBEq, Nat.reduceAdd, Nat.reduceSub, Nat.reduceMul, ↓reduceIte, reduceCtorEq, if_true, if_false, ite_true, ite_false, Int.reduceLT, Int.reduceLE, ptr, Tryd.ld_25, callV_func Tryd.enters_12, Tryd.fa_25_0, Tryd.ld_5, Int.cast_ofNat_Int,  Int.reduceEq,  ll2,  l2,  l3,  r0,  r1,  r2,  r3,  r4,  r5,  r6,  r7, rs_two (show Tryd.f8.results = #[.tmp 2,  .tmp 3] from rfl)]
      refine kind12_run f hG2 hm fun σ3 hS3 hn3 => ?_
      have v3 := v2.same hS3 nofun
      have l3 : ld σ3 σ.next 0 = some (.int .u8 (m.ty : Int)) := v3.ld rfl
      rw [h] at l3
      rw [k2]
      simp (maxSteps := 2000000) only [B0, B1, B2, B3, B4, B5, B6, B7, Gd, extV, Nat.reduceLT, Nat.reduceEqDiff, Nat.reduceBEq, Nat.reduceAdd, Nat.reduceSub, Nat.reduceMul, ↓reduceIte, reduceCtorEq, if_true, if_false, ite_true, ite_false, Int.reduceLT, Int.reduceLE, ptr, Tryd.ld_25, callV_func Tryd.enters_12, Tryd.fa_25_0, Tryd.ld_5, Int.cast_ofNat_Int,  Int.reduceEq,  ll2,  l2,  l3,  r0,  r1,  r2,  r3,  r4,  r5,  r6,  r7, rs_two (show Tryd.f8.results = #[.tmp 2,  .tmp 3] from rfl)]
      exact hQ σ3 (hS12.app hS3)
    · rw [show backN m.ty = (18, true) by rw [h]; rfl] at hQ
      rw [h] at l2
      have l3 := l2
      rw [k2]
      simp (maxSteps := 2000000) only [B0, B1, B2, B3, B4, B5, B6, B7, Gd, extV, Nat.reduceLT, Nat.reduceEqDiff, Nat.reduceBEq, Nat.reduceAdd, Nat.reduceSub, Nat.reduceMul, ↓reduceIte, reduceCtorEq, if_true, if_false, ite_true, ite_false, Int.reduceLT, Int.reduceLE, ptr, Tryd.ld_25, callV_func Tryd.enters_12, Tryd.fa_25_0, Tryd.ld_5, Int.cast_ofNat_Int,  Int.reduceEq,  ll2,  l2,  l3,  r0,  r1,  r2,  r3,  r4,  r5,  r6,  r7, rs_two (show Tryd.f8.results = #[.tmp 2,  .tmp 3] from rfl)]
      refine kind12_run f hG2 hm fun σ3 hS3 hn3 => ?_
      have v3 := v2.same hS3 nofun
      have l3 : ld σ3 σ.next 0 = some (.int .u8 (m.ty : Int)) := v3.ld rfl
      rw [h] at l3
      rw [k2]
      simp (maxSteps := 2000000) only [B0, B1, B2, B3, B4, B5, B6, B7, Gd, extV, Nat.reduceLT, Nat.reduceEqDiff, Nat.reduceBEq, Nat.reduceAdd, Nat.reduceSub, Nat.reduceMul, ↓reduceIte, reduceCtorEq, if_true, if_false, ite_true, ite_false, Int.reduceLT, Int.reduceLE, ptr, Tryd.ld_25, callV_func Tryd.enters_12, Tryd.fa_25_0, Tryd.ld_5, Int.cast_ofNat_Int,  Int.reduceEq,  ll2,  l2,  l3,  r0,  r1,  r2,  r3,  r4,  r5,  r6,  r7, rs_two (show Tryd.f8.results = #[.tmp 2,  .tmp 3] from rfl)]
      exact hQ σ3 (hS12.app hS3)
    all_goals (rw [h] at k2; exact absurd k2 (by decide))
  by_cases k3 : kindN m.ty = 3
  · have hv := kind_vals (.inr k3)
    rcases hv with h | h | h | h | h | h | h | h
    iterate 4 (rw [h] at k3; exact absurd k3 (by decide))
    · rw [show backN m.ty = (8, true) by rw [h]; rfl] at hQ
      rw [k3]
      have l3 := l2
      simp (maxSteps := 2000000) only [B0, B1, B2, B3, B4, B5, B6, B7, Gd, extV, Nat.reduceLT, Nat.reduceEqDiff, Nat.reduceBEq, Nat.reduceAdd, Nat.reduceSub, Nat.reduceMul, ↓reduceIte, reduceCtorEq, if_true, if_false, ite_true, ite_false, Int.reduceLT, Int.reduceLE, ptr, Tryd.ld_25, callV_func Tryd.enters_12, Tryd.fa_25_0, Tryd.ld_5, Int.cast_ofNat_Int,  Int.reduceEq,  ll2,  l2,  l3,  r0,  r1,  r2,  r3,  r4,  r5,  r6,  r7, rs_two (show Tryd.f8.results = #[.tmp 2,  .tmp 3] from rfl)]
      refine kind12_run f hG2 hm fun σ3 hS3 hn3 => ?_
      have v3 := v2.same hS3 nofun
      have hG3 := hG2.same hS3
      have ll3 : ldCells σ3 σ.next 0 7 = some (msgL m (.slice a l c)) := v3.ldCells
      have l3 : ld σ3 σ.next 0 = some (.int .u8 (m.ty : Int)) := v3.ld rfl
      rw [h] at l3
      rw [k3]
      simp (maxSteps := 2000000) only [B0, B1, B2, B3, B4, B5, B6, B7, Gd, extV, Nat.reduceLT, Nat.reduceEqDiff, Nat.reduceBEq, Nat.reduceAdd, Nat.reduceSub, Nat.reduceMul, ↓reduceIte, reduceCtorEq, if_true, if_false, ite_true, ite_false, Int.reduceLT, Int.reduceLE, ptr, Tryd.ld_25, callV_func Tryd.enters_12, Tryd.fa_25_0, Tryd.ld_5, Int.cast_ofNat_Int,  Int.reduceEq,  ll2,  l2,  l3,  r0,  r1,  r2,  r3,  r4,  r5,  r6,  r7, rs_two (show Tryd.f8.results = #[.tmp 2,  .tmp 3] from rfl)]
      exact hQ σ3 (hS12.app hS3)
    · rw [show backN m.ty = (13, true) by rw [h]; rfl] at hQ
      rw [k3]
      have l3 := l2
      simp (maxSteps := 2000000) only [B0, B1, B2, B3, B4, B5, B6, B7, Gd, extV, Nat.reduceLT, Nat.reduceEqDiff, Nat.reduceBEq, Nat.reduceAdd, Nat.reduceSub, Nat.reduceMul, ↓reduceIte, reduceCtorEq, if_true, if_false, ite_true, ite_false, Int.reduceLT, Int.reduceLE, ptr, Tryd.ld_25, callV_func Tryd.enters_12, Tryd.fa_25_0, Tryd.ld_5, Int.cast_ofNat_Int,  Int.reduceEq,  ll2,  l2,  l3,  r0,  r1,  r2,  r3,  r4,  r5,  r6,  r7, rs_two (show Tryd.f8.results = #[.tmp 2,  .tmp 3] from rfl)]
      refine kind12_run f hG2 hm fun σ3 hS3 hn3 => ?_
      have v3 := v2.same hS3 nofun
      have hG3 := hG2.same hS3
      have ll3 : ldCells σ3 σ.next 0 7 = some (msgL m (.slice a l c)) := v3.ldCells
      have l3 : ld σ3 σ.next 0 = some (.int .u8 (m.ty : Int)) := v3.ld rfl
      rw [h] at l3
      rw [k3]
      simp (maxSteps := 2000000) only [B0, B1, B2, B3, B4, B5, B6, B7, Gd, extV, Nat.reduceLT, Nat.reduceEqDiff, Nat.reduceBEq, Nat.reduceAdd, Nat.reduceSub, Nat.reduceMul, ↓reduceIte, reduceCtorEq, if_true, if_false, ite_true, ite_false, Int.reduceLT, Int.reduceLE, ptr, Tryd.ld_25, callV_func Tryd.enters_12, Tryd.fa_25_0, Tryd.ld_5, ll3, Int.cast_ofNat_Int,  Int.reduceEq,  ll2,  l2,  l3,  r0,  r1,  r2,  r3,  r4,  r5,  r6,  r7, rs_two (show Tryd.f8.results = #[.tmp 2,  .tmp 3] from rfl)]
      refine kind12_run f hG3 hm fun σ4 hS4 hn4 => ?_
      have v4 := v3.same hS4 nofun
      have l4 : ld σ4 σ.next 0 = some (.int .u8 (m.ty : Int)) := v4.ld rfl
      rw [h] at l4
      rw [k3]
      simp (maxSteps := 2000000) only [B0, B1, B2, B3, B4, B5, B6, B7, Gd, extV, Nat.reduceLT, Nat.reduceEqDiff, Nat.reduceBEq, Nat.reduceAdd, Nat.reduceSub, Nat.reduceMul, ↓reduceIte, reduceCtorEq, if_true, if_false, ite_true, ite_false, Int.reduceLT, Int.reduceLE, ptr, Tryd.ld_25, callV_func Tryd.enters_12, Tryd.fa_25_0, Tryd.ld_5, l4, Int.cast_ofNat_Int,  Int.reduceEq,  ll2,  l2,  l3,  r0,  r1,  r2,  r3,  r4,  r5,  r6,  r7, rs_two (show Tryd.f8.results = #[.tmp 2,  .tmp 3] from rfl)]
      exact hQ σ4 ((hS12.app hS3).app hS4)
    · rw [show backN m.ty = (15, true) by rw [h]; rfl] at hQ
      rw [k3]
      have l3 := l2
      simp (maxSteps := 2000000) only [B0, B1, B2, B3, B4, B5, B6, B7, Gd, extV, Nat.reduceLT, Nat.reduceEqDiff, Nat.reduceBEq, Nat.reduceAdd, Nat.reduceSub, Nat.reduceMul, ↓reduceIte, reduceCtorEq, if_true, if_false, ite_true, ite_false, Int.reduceLT, Int.reduceLE, ptr, Tryd.ld_25, callV_func Tryd.enters_12, Tryd.fa_25_0, Tryd.ld_5, Int.cast_ofNat_Int,  Int.reduceEq,  ll2,  l2,  l3,  r0,  r1,  r2,  r3,  r4,  r5,  r6,  r7, rs_two (show Tryd.f8.results = #[.tmp 2,  .tmp 3] from rfl)]
      refine kind12_run f hG2 hm fun σ3 hS3 hn3 => ?_
      have v3 := v2.same hS3 nofun
      have hG3 := hG2.same hS3
      have ll3 : ldCells σ3 σ.next 0 7 = some (msgL m (.slice a l c)) := v3.ldCells
      have l3 : ld σ3 σ.next 0 = some (.int .u8 (m.ty : Int)) := v3.ld rfl
      rw [h] at l3
      rw [k3]
      simp (maxSteps := 2000000) only [B0, B1, B2, B3, B4, B5, B6, B7, Gd, extV, Nat.reduceLT, Nat.reduceEqDiff, Nat.reduceBEq, Nat.reduceAdd, Nat.reduceSub, Nat.reduceMul, ↓reduceIte, reduceCtorEq, if_true, if_false, ite_true, ite_false, Int.reduceLT, Int.reduceLE, ptr, Tryd.ld_25, callV_func Tryd.enters_12, Tryd.fa_25_0, Tryd.ld_5, ll3, Int.cast_ofNat_Int,  Int.reduceEq,  ll2,  l2,  l3,  r0,  r1,  r2,  r3,  r4,  r5,  r6,  r7, rs_two (show Tryd.f8.results = #[.tmp 2,  .tmp 3] from rfl)]
      refine kind12_run f hG3 hm fun σ4 hS4 hn4 => ?_
      have v4 := v3.same hS4 nofun
      have l4 : ld σ4 σ.next 0 = some (.int .u8 (m.ty : Int)) := v4.ld rfl
      rw [h] at l4
      rw [k3]
      simp (maxSteps := 2000000) only [B0, B1, B2, B3, B4, B5, B6, B7, Gd, extV, Nat.reduceLT, Nat.reduceEqDiff, Nat.reduceBEq, Nat.reduceAdd, Nat.reduceSub, Nat.reduceMul, ↓reduceIte, reduceCtorEq, if_true, if_false, ite_true, ite_false, Int.reduceLT, Int.reduceLE, ptr, Tryd.ld_25, callV_func Tryd.enters_12, Tryd.fa_25_0, Tryd.ld_5, l4, Int.cast_ofNat_Int,  Int.reduceEq,  ll2,  l2,  l3,  r0,  r1,  r2,  r3,  r4,  r5,  r6,  r7, rs_two (show Tryd.f8.results = #[.tmp 2,  .tmp 3] from rfl)]
      exact hQ σ4 ((hS12.app hS3).app hS4)
    · rw [show backN m.ty = (17, true) by rw [h]; rfl] at hQ
      rw [k3]
      have l3 := l2
      simp (maxSteps := 2000000) only [B0, B1, B2, B3, B4, B5, B6, B7, Gd, extV, Nat.reduceLT, Nat.reduceEqDiff, Nat.reduceBEq, Nat.reduceAdd, Nat.reduceSub, Nat.reduceMul, ↓reduceIte, reduceCtorEq, if_true, if_false, ite_true, ite_false, Int.reduceLT, Int.reduceLE, ptr, Tryd.ld_25, callV_func Tryd.enters_12, Tryd.fa_25_0, Tryd.ld_5, Int.cast_ofNat_Int,  Int.reduceEq,  ll2,  l2,  l3,  r0,  r1,  r2,  r3,  r4,  r5,  r6,  r7, rs_two (show Tryd.f8.results = #[.tmp 2,  .tmp 3] from rfl)]
      refine kind12_run f hG2 hm fun σ3 hS3 hn3 => ?_
      have v3 := v2.same hS3 nofun
      have hG3 := hG2.same hS3
      have ll3 : ldCells σ3 σ.next 0 7 = some (msgL m (.slice a l c)) := v3.ldCells
      have l3 : ld σ3 σ.next 0 = some (.int .u8 (m.ty : Int)) := v3.ld rfl
      rw [h] at l3
      rw [k3]
      simp (maxSteps := 2000000) only [B0, B1, B2, B3, B4, B5, B6, B7, Gd, extV, Nat.reduceLT, Nat.reduceEqDiff, Nat.reduceBEq, Nat.reduceAdd, Nat.reduceSub, Nat.reduceMul, ↓reduceIte, reduceCtorEq, if_true, if_false, ite_true, ite_false, Int.reduceLT, Int.reduceLE, ptr, Tryd.ld_25, callV_func Tryd.enters_12, Tryd.fa_25_0, Tryd.ld_5, ll3, Int.cast_ofNat_Int,  Int.reduceEq,  ll2,  l2,  l3,  r0,  r1,  r2,  r3,  r4,  r5,  r6,  r7, rs_two (show Tryd.f8.results = #[.tmp 2,  .tmp 3] from rfl)]
      refine kind12_run f hG3 hm fun σ4 hS4 hn4 => ?_
      have v4 := v3.same hS4 nofun
      have l4 : ld σ4 σ.next 0 = some (.int .u8 (m.ty : Int)) := v4.ld rfl
      rw [h] at l4
      rw [k3]
      simp (maxSteps := 2000000) only [B0, B1, B2, B3, B4, B5, B6, B7, Gd, extV, Nat.reduceLT, Nat.reduceEqDiff, Nat.reduceBEq, Nat.reduceAdd, Nat.reduceSub, Nat.reduceMul, ↓reduceIte, reduceCtorEq, if_true, if_false, ite_true, ite_false, Int.reduceLT, Int.reduceLE, ptr, Tryd.ld_25, callV_func Tryd.enters_12, Tryd.fa_25_0, Tryd.ld_5, l4, Int.cast_ofNat_Int,  Int.reduceEq,  ll2,  l2,  l3,  r0,  r1,  r2,  r3,  r4,  r5,  r6,  r7, rs_two (show Tryd.f8.results = #[.tmp 2,  .tmp 3] from rfl)]
      exact hQ σ4 ((hS12.app hS3).app hS4)
  · rw [show backN m.ty = (0, false) by unfold backN; rw [if_neg (by omega)]] at hQ
    have k2' : ((kindN m.ty : Int) = 2) = False := eq_false (by omega)
    have k3' : ((kindN m.ty : Int) = 3) = False := eq_false (by omega)
    have l3 := l2
    simp (maxSteps := 2000000) only [B0, B1, B2, B3, B4, B5, B6, B7, Gd, extV, Nat.reduceLT, Nat.reduceEqDiff, Nat.reduceBEq, Nat.reduceAdd, Nat.reduceSub, Nat.reduceMul, ↓reduceIte, reduceCtorEq, if_true, if_false, ite_true, ite_false, Int.reduceLT, Int.reduceLE, ptr, Tryd.ld_25, callV_func Tryd.enters_12, Tryd.fa_25_0, Tryd.ld_5, k2', Int.cast_ofNat_Int,  Int.reduceEq,  ll2,  l2,  l3,  r0,  r1,  r2,  r3,  r4,  r5,  r6,  r7, rs_two (show Tryd.f8.results = #[.tmp 2,  .tmp 3] from rfl)]
    refine kind12_run f hG2 hm fun σ3 hS3 hn3 => ?_
    simp (maxSteps := 2000000) only [B0, B1, B2, B3, B4, B5, B6, B7, Gd, extV, Nat.reduceLT, Nat.reduceEqDiff, Nat.reduceBEq, Nat.reduceAdd, Nat.reduceSub, Nat.reduceMul, ↓reduceIte, reduceCtorEq, if_true, if_false, ite_true, ite_false, Int.reduceLT, Int.reduceLE, ptr, Tryd.ld_25, callV_func Tryd.enters_12, Tryd.fa_25_0, Tryd.ld_5, k3', Int.cast_ofNat_Int,  Int.reduceEq,  ll2,  l2,  l3,  r0,  r1,  r2,  r3,  r4,  r5,  r6,  r7, rs_two (show Tryd.f8.results = #[.tmp 2,  .tmp 3] from rfl)]
    exact hQ σ3 (hS12.app hS3)
end Go.Proofs.YtongccpmdndcgaaDoor.Icm
end
/- Words of a message, heads compared, what is told of itself. -/
section
set_option linter.all false
namespace Go.Proofs.YtongccpmdndcgaaDoor.Icm
open Go Go.AE Go.Proofs
set_option maxRecDepth 100000
set_option maxHeartbeats 1000000
attribute [local irreducible] Go.AE.Tr.put Go.AE.Tr.get
variable {gs : List Nat} {orc : Orc} {n : Nat} {σ : AHeap} {Q : Value × AHeap → Prop}

theorem word24_at (f : FreeI orc) {b o cap x y : Nat} (hx : x < 256) (hy : y < 256) (l0 : ld σ b o = some (.int .u8 (x : Int))) (l1 : ld σ b (o + 1) = some (.int .u8 (y : Int))) : W (acall Tryd.prog gs orc (n + 1) 24 [.slice (some ⟨b, o, none⟩) 2 cap] σ) Q = Q (.int .u16 ((x * 256 + y : Nat) : Int), σ) := by
  have hor : (x * 256) ||| y = x * 256 + y := or_join (s := 8) hy
  have x0 : idx (.int .i64 0) 2 = some 0 := rfl
  have x1 : idx (.int .i64 1) 2 = some 1 := rfl
  rw [W_start (m := 13) (keep := []) Tryd.func24 rfl (by kernel_rfl) (by kernel_rfl) (by first | rfl | assumption | exact f.h24) (by rfl)]
  simp (maxSteps := 2000000) only [B0, B1, B2, B3, B4, B5, B6, B7, Gd, extV, Nat.reduceLT, Nat.reduceEqDiff, Nat.reduceBEq, Nat.reduceAdd, Nat.reduceSub, Nat.reduceMul, ↓reduceIte, reduceCtorEq, if_true, if_false, ite_true, ite_false, Int.reduceLT, Int.reduceLE, ptr, Tryd.ia_23, Tryd.ld_5, x0,  x1,  l0,  l1,  Nat.zero_mul,  Nat.one_mul,  Nat.add_zero,  conv_int Tryd.underlying5 Tryd.underlying35,  wrapU16 (show x < 65536 by omega),  wrapU16 (show y < 65536 by omega),  shl8_16 hx,  or_16 (show x * 256 < 65536 by omega) (show y < 65536 by omega),  hor, rs_tmp (show Tryd.f24.results = #[.tmp 2] from rfl)]
theorem arr_hi {b o : Nat} : sliceOp Tryd.prog 22 (.pointer (some ⟨b, o, none⟩)) none (some (.int .i64 2)) none σ = some (.slice (some ⟨b, o, none⟩) 2 4) := by
  simp only [sliceOp, Tryd.underlying22, Tryd.size_5, bounds, lowB, sliceArr]
  rfl
theorem arr_lo {b o : Nat} : sliceOp Tryd.prog 22 (.pointer (some ⟨b, o, none⟩)) (some (.int .i64 2)) none none σ = some (.slice (some ⟨b, o + 2, none⟩) 2 2) := by
  simp only [sliceOp, Tryd.underlying22, Tryd.size_5, bounds, lowB, sliceArr]
  rfl
theorem id_run (f : FreeI orc) {m : Mg} {v : Value} (hm : m.ok) (hQ : ∀ σ', Same σ σ' [] → Q (.int .u16 ((m.r0 * 256 + m.r1 : Nat) : Int), σ')) : W (acall Tryd.prog gs orc (n + 2) 16 [.agg (msgL m v).toArray] σ) Q := by
  obtain ⟨σ1, e1, hS1, v1, hn1⟩ := AE.oneVar σ 25 (msgL m v) false
  rw [W_start (m := 6) (keep := []) Tryd.func16 rfl (by kernel_rfl) (by kernel_rfl) (by first | rfl | assumption | exact f.h16) (by rfl)]
  simp (maxSteps := 2000000) only [B0, B1, B2, B3, B4, B5, B6, B7, Gd, extV, Nat.reduceLT, Nat.reduceEqDiff, Nat.reduceBEq, Nat.reduceAdd, Nat.reduceSub, Nat.reduceMul, ↓reduceIte, reduceCtorEq, if_true, if_false, ite_true, ite_false, Int.reduceLT, Int.reduceLE, ptr, Tryd.fa_25_2, callV_func Tryd.enters_24, Value.cells,  msg_list,  msg_size,  e1,  arr_hi, rs_tmp (show Tryd.f16.results = #[.tmp 2] from rfl)]
  rw [word24_at f hm.r0 hm.r1 (v1.ld rfl) (v1.ld rfl)]
  simp (maxSteps := 2000000) only [B0, B1, B2, B3, B4, B5, B6, B7, Gd, extV, Nat.reduceLT, Nat.reduceEqDiff, Nat.reduceBEq, Nat.reduceAdd, Nat.reduceSub, Nat.reduceMul, ↓reduceIte, reduceCtorEq, if_true, if_false, ite_true, ite_false, Int.reduceLT, Int.reduceLE, ptr, Tryd.fa_25_2, callV_func Tryd.enters_24, rs_tmp (show Tryd.f16.results = #[.tmp 2] from rfl)]
  exact hQ σ1 hS1
theorem seq_run (f : FreeI orc) {m : Mg} {v : Value} (hm : m.ok) (hQ : ∀ σ', Same σ σ' [] → Q (.int .u16 ((m.r2 * 256 + m.r3 : Nat) : Int), σ')) : W (acall Tryd.prog gs orc (n + 2) 17 [.agg (msgL m v).toArray] σ) Q := by
  obtain ⟨σ1, e1, hS1, v1, hn1⟩ := AE.oneVar σ 25 (msgL m v) false
  rw [W_start (m := 6) (keep := []) Tryd.func17 rfl (by kernel_rfl) (by kernel_rfl) (by first | rfl | assumption | exact f.h17) (by rfl)]
  simp (maxSteps := 2000000) only [B0, B1, B2, B3, B4, B5, B6, B7, Gd, extV, Nat.reduceLT, Nat.reduceEqDiff, Nat.reduceBEq, Nat.reduceAdd, Nat.reduceSub, Nat.reduceMul, ↓reduceIte, reduceCtorEq, if_true, if_false, ite_true, ite_false, Int.reduceLT, Int.reduceLE, ptr, Tryd.fa_25_2, callV_func Tryd.enters_24, Value.cells,  msg_list,  msg_size,  e1,  arr_lo, rs_tmp (show Tryd.f17.results = #[.tmp 2] from rfl)]
  rw [word24_at f hm.r2 hm.r3 (v1.ld rfl) (v1.ld rfl)]
  simp (maxSteps := 2000000) only [B0, B1, B2, B3, B4, B5, B6, B7, Gd, extV, Nat.reduceLT, Nat.reduceEqDiff, Nat.reduceBEq, Nat.reduceAdd, Nat.reduceSub, Nat.reduceMul, ↓reduceIte, reduceCtorEq, if_true, if_false, ite_true, ite_false, Int.reduceLT, Int.reduceLE, ptr, Tryd.fa_25_2, callV_func Tryd.enters_24, rs_tmp (show Tryd.f17.results = #[.tmp 2] from rfl)]
  exact hQ σ1 hS1
/-- Bytes as letters. -/
def strB (A : List Nat) : ByteArray := ⟨(A.map UInt8.ofNat).toArray⟩
theorem flat_encB (A : List Nat) : A.flatMap encB = A.map fun b : Nat => Value.int .u8 (b : Int) := by
  induction A with
  | nil => rfl
  | cons a A ih => rw [List.flatMap_cons, ih]; rfl
theorem conv_bat {v : Value} {A : List Nat} (h : BAt σ v A) : conv Tryd.prog 23 9 v σ = some (.string (strB A), σ) := by
  have hf := h.first encBOk
  obtain ⟨a, c, rfl, _⟩ := h.len
  rw [flat_encB] at hf
  simp only [conv, Tryd.underlying23, Tryd.underlying9, Tryd.underlying5, hf, bytes_of, strB]
theorem bld25 : ∀ {x : Int}, build' Tryd.prog 25 [(0, .int .u8 x)] = some (.agg #[.int .u8 x, .int .u8 0, .int .u8 0, .int .u8 0, .int .u8 0, .int .u8 0, .slice none 0 0]) := by intro x; kernel_rfl
theorem tells_run (f : FreeI orc) (hG : Glb σ) (hn : 260 < n) (hQ : ∀ σ', Same σ σ' [] → Q (.bool true, σ')) : W (acall Tryd.prog [0] orc (n + 3) 18 [] σ) Q := by
  rw [W_start (m := 29) (keep := []) Tryd.func18 rfl (by kernel_rfl) (by kernel_rfl) (by first | rfl | assumption | exact f.h18) (by rfl)]
  simp (maxSteps := 2000000) only [B0, B1, B2, B3, B4, B5, B6, B7, Gd, extV, Nat.reduceLT, Nat.reduceEqDiff, Nat.reduceBEq, Nat.reduceAdd, Nat.reduceSub, Nat.reduceMul, ↓reduceIte, reduceCtorEq, if_true, if_false, ite_true, ite_false, Int.reduceLT, Int.reduceLE, ptr, callV_func Tryd.enters_6, callV_func Tryd.enters_8, bld25, rs_tmp (show Tryd.f18.results = #[.tmp 0] from rfl)]
  refine put6_run f (m := ⟨8, 0, 0, 0, 0, 0, []⟩) (v := .slice none 0 0) ⟨by decide, by decide, by decide, by decide, by decide, by decide, nofun, by decide⟩ (.inl ⟨rfl, rfl⟩) (by omega) fun σ1 v1 h1 hb1 hS1 => ?_
  simp (maxSteps := 2000000) only [B0, B1, B2, B3, B4, B5, B6, B7, Gd, extV, Nat.reduceLT, Nat.reduceEqDiff, Nat.reduceBEq, Nat.reduceAdd, Nat.reduceSub, Nat.reduceMul, ↓reduceIte, reduceCtorEq, if_true, if_false, ite_true, ite_false, Int.reduceLT, Int.reduceLE, ptr, callV_func Tryd.enters_6, callV_func Tryd.enters_8, bld25, rs_tmp (show Tryd.f18.results = #[.tmp 0] from rfl)]
  refine back8_run f (m := ⟨13, 0, 0, 0, 0, 0, []⟩) (hG.same hS1) (by decide) (by omega) (v := .slice none 0 0) rfl fun σ2 hS2 => ?_
  have c := conv_bat (SlAt.same h1 hS2 nofun)
  have e : strB (putM ⟨8, 0, 0, 0, 0, 0, []⟩) = ⟨#[8, 0, 247, 255, 0, 0, 0, 0]⟩ := by decide +kernel
  rw [e] at c
  rw [show backN (Mg.mk 13 0 0 0 0 0 []).ty = (14, true) from rfl]
  simp (maxSteps := 2000000) only [B0, B1, B2, B3, B4, B5, B6, B7, Gd, extV, Nat.reduceLT, Nat.reduceEqDiff, Nat.reduceBEq, Nat.reduceAdd, Nat.reduceSub, Nat.reduceMul, ↓reduceIte, reduceCtorEq, if_true, if_false, ite_true, ite_false, Int.reduceLT, Int.reduceLE, ptr, callV_func Tryd.enters_6, callV_func Tryd.enters_8, c, rs_tmp (show Tryd.f18.results = #[.tmp 0] from rfl)]
  exact hQ σ2 (hS1.app hS2)
end Go.Proofs.YtongccpmdndcgaaDoor.Icm
end
/- What a message quotes. -/
section
set_option linter.all false
namespace Go.Proofs.YtongccpmdndcgaaDoor.Icm
open Go Go.AE Go.Proofs
set_option maxRecDepth 100000
set_option maxHeartbeats 2000000
attribute [local irreducible] Go.AE.Tr.put Go.AE.Tr.get
variable {gs : List Nat} {orc : Orc} {n : Nat} {σ : AHeap} {Q : Value × AHeap → Prop}

def quoteC (m : Mg) : Nat := if kindN m.ty ≠ 1 then 1 else if cutC m.B ≠ 0 then cutC m.B else if (bodyL m.B).length < 8 ∧ (bodyL m.B).length < allN m.B - hdN m.B then 4 else 0
theorem cut_ok {A : List Nat} (h : cutC A = 0) : beginC A = 0 := by
  unfold cutC at h
  split at h
  · exact h
  · omega
theorem quote10_fresh (f : FreeI orc) {m : Mg} {v : Value} (hG : Glb σ) (hm : m.ok) (hv : BAt σ v m.B) (hn : 500 < n)
    (hE : ∀ σ', Same σ σ' [] → quoteC m ≠ 0 → Q (.tuple #[.agg zH.toArray, .slice none 0 0, .int .i64 (quoteC m : Int)], σ'))
    (hQ : ∀ σ' o body, quoteC m = 0 → BAt σ' o (optL m.B) → BAt σ' body (bodyL m.B) → (∀ x ∈ blks o, σ.next ≤ x) → (∀ x ∈ blks body, σ.next ≤ x) → Same σ σ' [] → Q (.tuple #[.agg (headL m.B o).toArray, body, .int .i64 0], σ')) :
    W (acall Tryd.prog [0] orc (n + 4) 10 [.agg (msgL m v).toArray] σ) Q := by
  obtain ⟨a, c, rfl, hc⟩ := hv.len
  have hlen := hm.len
  obtain ⟨σ1, e1, hS1, v1, hn1⟩ := AE.oneVar σ 25 (msgL m (.slice a m.B.length c)) false
  obtain ⟨σ2, e2, hS2, v2, hn2⟩ := AE.oneVar σ1 39 zH false
  have w2 := v1.same hS2 nofun
  have hS12 := hS1.app hS2
  have hG2 := hG.same hS12
  have ll2 : ldCells σ2 σ.next 0 7 = some (msgL m (.slice a m.B.length c)) := w2.ldCells
  rw [W_start (m := 42) (keep := [6]) Tryd.func10 rfl (by kernel_rfl) (by kernel_rfl) (by first | rfl | assumption | exact f.h10) (by rfl)]
  simp (maxSteps := 2000000) only [B0, B1, B2, B3, B4, B5, B6, B7, Gd, extV, Nat.reduceLT, Nat.reduceEqDiff, Nat.reduceBEq, Nat.reduceAdd, Nat.reduceSub, Nat.reduceMul, ↓reduceIte, reduceCtorEq, if_true, if_false, ite_true, ite_false, Int.reduceLT, Int.reduceLE, ptr, allocV_zero Tryd.zero_39, Tryd.ld_25, callV_func Tryd.enters_12, Tryd.st_39, Tryd.fa_25_3, Tryd.ld_23, callV_func Tryd.enters_23, callV_func Tryd.enters_24, Tryd.ia_23, Tryd.ld_5, Tryd.len_23, Tryd.ld_39, Value.cells,  msg_list,  msg_size,  e1,  zst39,  zH_list,  zH_size,  e2,  ll2, rs_ctt (show Tryd.f10.results = #[.cell 2 39,  .tmp 3,  .tmp 4] from rfl)]
  refine kind12_run f hG2 hm.ty fun σ3 hS3 hn3 => ?_
  have hS123 := hS12.app hS3
  have w3 := v2.same hS3 nofun
  have u3 := w2.same hS3 nofun
  have hv3 := SlAt.same hv hS123 nofun
  have l6 : ld σ3 σ.next 6 = some (.slice a m.B.length c) := u3.ld rfl
  by_cases hk : kindN m.ty = 1
  · have hk' : ((kindN m.ty : Int) = 1) = True := eq_true (by omega)
    simp (maxSteps := 2000000) only [B0, B1, B2, B3, B4, B5, B6, B7, Gd, extV, Nat.reduceLT, Nat.reduceEqDiff, Nat.reduceBEq, Nat.reduceAdd, Nat.reduceSub, Nat.reduceMul, ↓reduceIte, reduceCtorEq, if_true, if_false, ite_true, ite_false, Int.reduceLT, Int.reduceLE, ptr, allocV_zero Tryd.zero_39, Tryd.ld_25, callV_func Tryd.enters_12, Tryd.st_39, Tryd.fa_25_3, Tryd.ld_23, callV_func Tryd.enters_23, callV_func Tryd.enters_24, Tryd.ia_23, Tryd.ld_5, Tryd.len_23, Tryd.ld_39, hk',  l6, rs_ctt (show Tryd.f10.results = #[.cell 2 39,  .tmp 3,  .tmp 4] from rfl)]
    refine cut_run f hv3 hm.by_ (by omega) (by omega) (fun σ4 hS4 hc4 => ?_) (fun σ4 o body hc4 ho hb hbo hbb hS4 => ?_)
    · have hcq : quoteC m = cutC m.B := by unfold quoteC; rw [if_neg (by omega), if_pos hc4]
      have hc4' : ((cutC m.B : Int) = 0) = False := eq_false (by omega)
      obtain ⟨σ5, t5, v5, hS5, hn5⟩ := (w3.same hS4 nofun).store (vs' := zH) rfl zH_single
      obtain ⟨σ9, t9, v9, hS9, hn9⟩ := v5.store (vs' := zH) rfl zH_single
      have l9 : ldCells σ9 σ1.next 0 11 = some zH := v9.ldCells
      simp (maxSteps := 2000000) only [B0, B1, B2, B3, B4, B5, B6, B7, Gd, extV, Nat.reduceLT, Nat.reduceEqDiff, Nat.reduceBEq, Nat.reduceAdd, Nat.reduceSub, Nat.reduceMul, ↓reduceIte, reduceCtorEq, if_true, if_false, ite_true, ite_false, Int.reduceLT, Int.reduceLE, ptr, allocV_zero Tryd.zero_39, Tryd.ld_25, callV_func Tryd.enters_12, Tryd.st_39, Tryd.fa_25_3, Tryd.ld_23, callV_func Tryd.enters_23, callV_func Tryd.enters_24, Tryd.ia_23, Tryd.ld_5, Tryd.len_23, Tryd.ld_39, bld39z,  Value.cells,  zH_size,  zH_list,  t5,  hc4',  t9,  l9, rs_ctt (show Tryd.f10.results = #[.cell 2 39,  .tmp 3,  .tmp 4] from rfl)]
      have := hE σ9 ((((hS123.app hS4).app hS5).app hS9).old fun b hb => by simp at hb; exact .inr (by omega)) (by omega)
      rw [hcq] at this
      exact this
    · obtain ⟨ao, ko, rfl, _⟩ := ho.len
      obtain ⟨ab, kb, rfl, _⟩ := hb.len
      obtain ⟨σ5, t5, v5, hS5, hn5⟩ := (w3.same hS4 nofun).store (vs' := headL m.B (.slice ao (optL m.B).length ko)) rfl head_single
      have hne : σ.next ∉ [σ1.next] := by simp; omega
      have u5 := (u3.same hS4 nofun).same hS5 hne
      have l65 : ld σ5 σ.next 6 = some (.slice a m.B.length c) := u5.ld rfl
      have hvl := SlAt.lt hv
      have hv5 : BAt σ5 (.slice a m.B.length c) m.B := SlAt.same (SlAt.same hv3 hS4 nofun) hS5 (fun b hb w => by have := hvl b hb; simp at w; omega)
      obtain ⟨b1, b2, b3, b4, b5, b6⟩ := begin_ok (cut_ok hc4)
      obtain ⟨v', hs, hv', _⟩ := slice_drop (kk := .i64) (t := 23) Tryd.underlying23 Tryd.size_5 hv5 (j := 2) (by omega)
      have e4 : wd (m.B.drop 2) 0 = allN m.B := wd_drop
      have hBd := hm.by_.drop 2
      have r2 : ∀ (Q' : Value × AHeap → Prop), W (acall Tryd.prog [0] orc (n + 3) 24 [v'] σ5) Q' = Q' (.int .u16 (allN m.B : Int), σ5) := fun Q' => by rw [word24_run f hv' hBd (by rw [List.length_drop]; omega), e4]
      obtain ⟨b, o, cap, e', hbl, hll⟩ := BAt.rows hv5 (by omega)
      injection e' with e' _ e3
      subst e' e3
      have hs : sliceOp Tryd.prog 23 (.slice (some ⟨b, o, none⟩) m.B.length c) (some (.int .i64 2)) none none σ5 = some v' := hs
      have l0 := hll 0 (by omega)
      simp only [Nat.add_zero] at l0
      have c0 : 0 < m.B.length := by omega
      have g0 := gd_lt hm.by_ 0
      have e : hdN m.B = 4 * (gd m.B 0 % 16) := rfl
      have hal : allN m.B < 65536 := wd_lt hm.by_ 2
      have hw0 : IntKind.i64.wrap ((gd m.B 0 % 16 : Nat) : Int) = ((gd m.B 0 % 16 : Nat) : Int) := wrap64 (by omega) (by omega)
      have hw4 : IntKind.i64.wrap (4 * ((gd m.B 0 % 16 : Nat) : Int)) = (hdN m.B : Int) := by rw [wrap64 (by omega) (by omega), e]; omega
      have hwa : IntKind.i64.wrap (allN m.B : Int) = (allN m.B : Int) := wrap64 (by omega) (by omega)
      have hws : IntKind.i64.wrap ((allN m.B : Int) - (hdN m.B : Int)) = ((allN m.B - hdN m.B : Nat) : Int) := by rw [wrap64 (by omega) (by omega)]; omega
      have hbl2 : (bodyL m.B).length ≤ 200 := by unfold bodyL; rw [List.length_drop, List.length_take]; omega
      have hmin : (if ((allN m.B - hdN m.B : Nat) : Int) < 8 then ((allN m.B - hdN m.B : Nat) : Int) else 8) = ((min 8 (allN m.B - hdN m.B) : Nat) : Int) := by split <;> omega
      simp (maxSteps := 2000000) only [B0, B1, B2, B3, B4, B5, B6, B7, Gd, extV, Nat.reduceLT, Nat.reduceEqDiff, Nat.reduceBEq, Nat.reduceAdd, Nat.reduceSub, Nat.reduceMul, ↓reduceIte, reduceCtorEq, if_true, if_false, ite_true, ite_false, Int.reduceLT, Int.reduceLE, ptr, allocV_zero Tryd.zero_39, Tryd.ld_25, callV_func Tryd.enters_12, Tryd.st_39, Tryd.fa_25_3, Tryd.ld_23, callV_func Tryd.enters_23, callV_func Tryd.enters_24, Tryd.ia_23, Tryd.ld_5, Tryd.len_23, Tryd.ld_39, t5,  Value.cells,  head_size,  head_list, rs_ctt (show Tryd.f10.results = #[.cell 2 39,  .tmp 3,  .tmp 4] from rfl)]
      refine Eq.mpr (W_retold (ps := [(3, 6), (3, 8), (3, 10)]) (by kernel_rfl) (by kernel_rfl) (by simp)) ?_
      simp (maxSteps := 2000000) only [B0, B1, B2, B3, B4, B5, B6, B7, Gd, extV, Nat.reduceLT, Nat.reduceEqDiff, Nat.reduceBEq, Nat.reduceAdd, Nat.reduceSub, Nat.reduceMul, ↓reduceIte, reduceCtorEq, if_true, if_false, ite_true, ite_false, Int.reduceLT, Int.reduceLE, ptr, allocV_zero Tryd.zero_39, Tryd.ld_25, callV_func Tryd.enters_12, Tryd.st_39, Tryd.fa_25_3, Tryd.ld_23, callV_func Tryd.enters_23, callV_func Tryd.enters_24, Tryd.ia_23, Tryd.ld_5, Tryd.len_23, Tryd.ld_39, l65,  hs,  r2,  c0,  Nat.zero_mul,  l0,  and15_8 g0,  conv_int Tryd.underlying5 Tryd.underlying3,  hw0,  hw4,  conv_int Tryd.underlying35 Tryd.underlying3,  hwa,  hws,  min_int,  hmin, rs_ctt (show Tryd.f10.results = #[.cell 2 39,  .tmp 3,  .tmp 4] from rfl)]
      by_cases hsm : (bodyL m.B).length < 8 ∧ (bodyL m.B).length < allN m.B - hdN m.B
      · have hcq : quoteC m = 4 := by unfold quoteC; rw [if_neg (by omega), if_neg (by omega), if_pos hsm]
        have hsm' : (((bodyL m.B).length : Int) < ((min 8 (allN m.B - hdN m.B) : Nat) : Int)) = True := eq_true (by omega)
        obtain ⟨σ9, t9, v9, hS9, hn9⟩ := v5.store (vs' := zH) rfl zH_single
        have l9 : ldCells σ9 σ1.next 0 11 = some zH := v9.ldCells
        simp (maxSteps := 2000000) only [B0, B1, B2, B3, B4, B5, B6, B7, Gd, extV, Nat.reduceLT, Nat.reduceEqDiff, Nat.reduceBEq, Nat.reduceAdd, Nat.reduceSub, Nat.reduceMul, ↓reduceIte, reduceCtorEq, if_true, if_false, ite_true, ite_false, Int.reduceLT, Int.reduceLE, ptr, allocV_zero Tryd.zero_39, Tryd.ld_25, callV_func Tryd.enters_12, Tryd.st_39, Tryd.fa_25_3, Tryd.ld_23, callV_func Tryd.enters_23, callV_func Tryd.enters_24, Tryd.ia_23, Tryd.ld_5, Tryd.len_23, Tryd.ld_39, hsm',  bld39z,  Value.cells,  zH_size,  zH_list,  t9,  l9, rs_ctt (show Tryd.f10.results = #[.cell 2 39,  .tmp 3,  .tmp 4] from rfl)]
        have := hE σ9 ((((hS123.app hS4).app hS5).app hS9).old fun b hb => by simp at hb; exact .inr (by omega)) (by omega)
        rw [hcq] at this
        exact this
      · have hcq : quoteC m = 0 := by unfold quoteC; rw [if_neg (by omega), if_neg (by omega), if_neg hsm]
        have hsm' : (((bodyL m.B).length : Int) < ((min 8 (allN m.B - hdN m.B) : Nat) : Int)) = False := eq_false (by omega)
        have l5 : ldCells σ5 σ1.next 0 11 = some (headL m.B (.slice ao (optL m.B).length ko)) := v5.ldCells
        obtain ⟨σ9, t9, v9, hS9, hn9⟩ := v5.store (vs' := headL m.B (.slice ao (optL m.B).length ko)) rfl head_single
        have l9 : ldCells σ9 σ1.next 0 11 = some (headL m.B (.slice ao (optL m.B).length ko)) := v9.ldCells
        simp (maxSteps := 2000000) only [B0, B1, B2, B3, B4, B5, B6, B7, Gd, extV, Nat.reduceLT, Nat.reduceEqDiff, Nat.reduceBEq, Nat.reduceAdd, Nat.reduceSub, Nat.reduceMul, ↓reduceIte, reduceCtorEq, if_true, if_false, ite_true, ite_false, Int.reduceLT, Int.reduceLE, ptr, allocV_zero Tryd.zero_39, Tryd.ld_25, callV_func Tryd.enters_12, Tryd.st_39, Tryd.fa_25_3, Tryd.ld_23, callV_func Tryd.enters_23, callV_func Tryd.enters_24, Tryd.ia_23, Tryd.ld_5, Tryd.len_23, Tryd.ld_39, hsm',  Value.cells,  head_size,  head_list,  l5,  t9,  l9, rs_ctt (show Tryd.f10.results = #[.cell 2 39,  .tmp 3,  .tmp 4] from rfl)]
        have n3 := hS3.next
        exact hQ σ9 _ _ hcq (SlAt.same (SlAt.same ho hS5 (fun x hx w => by have := hbo x hx; simp at w; omega)) hS9 (fun x hx w => by have := hbo x hx; simp at w; omega)) (SlAt.same (SlAt.same hb hS5 (fun x hx w => by have := hbb x hx; simp at w; omega)) hS9 (fun x hx w => by have := hbb x hx; simp at w; omega)) (fun x hx => by have := hbo x hx; omega) (fun x hx => by have := hbb x hx; omega) ((((hS123.app hS4).app hS5).app hS9).old fun b hb => by simp at hb; exact .inr (by omega))
  · have hk' : ((kindN m.ty : Int) = 1) = False := eq_false (by omega)
    have hcq : quoteC m = 1 := by unfold quoteC; rw [if_pos hk]
    simp (maxSteps := 2000000) only [B0, B1, B2, B3, B4, B5, B6, B7, Gd, extV, Nat.reduceLT, Nat.reduceEqDiff, Nat.reduceBEq, Nat.reduceAdd, Nat.reduceSub, Nat.reduceMul, ↓reduceIte, reduceCtorEq, if_true, if_false, ite_true, ite_false, Int.reduceLT, Int.reduceLE, ptr, allocV_zero Tryd.zero_39, Tryd.ld_25, callV_func Tryd.enters_12, Tryd.st_39, Tryd.fa_25_3, Tryd.ld_23, callV_func Tryd.enters_23, callV_func Tryd.enters_24, Tryd.ia_23, Tryd.ld_5, Tryd.len_23, Tryd.ld_39, hk', rs_ctt (show Tryd.f10.results = #[.cell 2 39,  .tmp 3,  .tmp 4] from rfl)]
    obtain ⟨σ9, t9, v9, hS9, hn9⟩ := w3.store (vs' := zH) rfl zH_single
    have l9 : ldCells σ9 σ1.next 0 11 = some zH := v9.ldCells
    simp (maxSteps := 2000000) only [B0, B1, B2, B3, B4, B5, B6, B7, Gd, extV, Nat.reduceLT, Nat.reduceEqDiff, Nat.reduceBEq, Nat.reduceAdd, Nat.reduceSub, Nat.reduceMul, ↓reduceIte, reduceCtorEq, if_true, if_false, ite_true, ite_false, Int.reduceLT, Int.reduceLE, ptr, allocV_zero Tryd.zero_39, Tryd.ld_25, callV_func Tryd.enters_12, Tryd.st_39, Tryd.fa_25_3, Tryd.ld_23, callV_func Tryd.enters_23, callV_func Tryd.enters_24, Tryd.ia_23, Tryd.ld_5, Tryd.len_23, Tryd.ld_39, bld39z,  Value.cells,  zH_size,  zH_list,  t9,  l9, rs_ctt (show Tryd.f10.results = #[.cell 2 39,  .tmp 3,  .tmp 4] from rfl)]
    have := hE σ9 ((hS123.app hS9).old fun b hb => by simp at hb; exact .inr (by omega))
    rw [hcq] at this
    exact this (by omega)
theorem quote10_run (f : FreeI orc) {m : Mg} {v : Value} (hG : Glb σ) (hm : m.ok) (hv : BAt σ v m.B) (hn : 500 < n)
    (hE : ∀ σ', Same σ σ' [] → quoteC m ≠ 0 → Q (.tuple #[.agg zH.toArray, .slice none 0 0, .int .i64 (quoteC m : Int)], σ'))
    (hQ : ∀ σ' o body, quoteC m = 0 → BAt σ' o (optL m.B) → BAt σ' body (bodyL m.B) → Same σ σ' [] → Q (.tuple #[.agg (headL m.B o).toArray, body, .int .i64 0], σ')) :
    W (acall Tryd.prog [0] orc (n + 4) 10 [.agg (msgL m v).toArray] σ) Q :=
  quote10_fresh f hG hm hv hn hE fun σ' o body h1 h2 h3 _ _ h4 => hQ σ' o body h1 h2 h3 h4
end Go.Proofs.YtongccpmdndcgaaDoor.Icm
end
