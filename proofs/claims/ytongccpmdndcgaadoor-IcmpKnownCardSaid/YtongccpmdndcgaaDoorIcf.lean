/- Texts of this proof, gathered. What each part says stands at its head; conditions: none but those that its theorems name. -/
import Derived.Test.YtongccpmdndcgaaDoorIcc
import Derived.Test.YtongccpmdndcgaaDoorE4
/- Long bodies put; messages read. -/
section
set_option linter.all false
namespace Go.Proofs.YtongccpmdndcgaaDoor.Icm
open Go Go.AE Go.Proofs
set_option maxRecDepth 100000
set_option maxHeartbeats 1000000
attribute [local irreducible] Go.AE.Tr.put Go.AE.Tr.get
variable {gs : List Nat} {orc : Orc} {n : Nat} {σ : AHeap} {Q : Value × AHeap → Prop}

structure Mg.okb (m : Mg) : Prop where
  (ty : m.ty < 256) (co : m.co < 256) (r0 : m.r0 < 256) (r1 : m.r1 < 256) (r2 : m.r2 < 256) (r3 : m.r3 < 256) (by_ : Byt m.B)
theorem rawM_bytb {m : Mg} (h : m.okb) : Byt (rawM m) := by
  intro b hb
  have := h.ty; have := h.co; have := h.r0; have := h.r1; have := h.r2; have := h.r3
  simp only [rawM, List.cons_append, List.nil_append, List.mem_cons] at hb
  rcases hb with rfl | rfl | rfl | rfl | rfl | rfl | rfl | rfl | hb <;> first | omega | exact h.by_ _ hb
theorem put6_big (f : FreeI orc) {m : Mg} {v : Value} (hm : m.okb) (hlen : m.B.length ≤ 65507) (hv : BAt σ v m.B) (hn : m.B.length + 50 < n)
    (hQ : ∀ σ' v', BAt σ' v' (putM m) → (∀ b ∈ blks v', σ.next ≤ b) → Same σ σ' [] → Q (.tuple #[v', .int .i64 0], σ')) :
    W (acall Tryd.prog gs orc (n + 2) 6 [.agg (msgL m v).toArray] σ) Q := by
  obtain ⟨a, c, rfl, hc⟩ := hv.len
  obtain ⟨σ1, e1, hS1, v1, hn1⟩ := AE.oneVar σ 25 (msgL m (.slice a m.B.length c)) false
  have hv1 := SlAt.same hv hS1 nofun
  have l0 : ld σ1 σ.next 0 = some (.int .u8 (m.ty : Int)) := v1.ld rfl
  have l1 : ld σ1 σ.next 1 = some (.int .u8 (m.co : Int)) := v1.ld rfl
  have l6 : ld σ1 σ.next 6 = some (.slice a m.B.length c) := v1.ld rfl
  have hgt : ((65507 : Int) < (m.B.length : Int)) = False := eq_false (by omega)
  obtain ⟨σ2, e2, hS2, v2, hn2⟩ := AE.oneVar σ1 5 [.int .u8 (m.ty : Int), .int .u8 (m.co : Int), .int .u8 0, .int .u8 0] false
  have z2 : BAt σ2 (.slice (some ⟨σ1.next, 0, none⟩) 4 4) [m.ty, m.co, 0, 0] := by rw [← e2]; exact SlAt.new encBOk σ1 5 false [m.ty, m.co, 0, 0]
  have bs : buildSliceV Tryd.prog 23 4 [(0, .int .u8 (m.ty : Int)), (1, .int .u8 (m.co : Int)), (2, .int .u8 0), (3, .int .u8 0)] σ1 = some (.slice (some ⟨σ1.next, 0, none⟩) 4 4, σ2) := by rw [← e2]; exact buildSlice_of Tryd.underlying23 Tryd.elem_5 (by decide) rfl
  have v2' : VarAt σ2 σ.next (msgL m (.slice a m.B.length c)) := v1.same hS2 nofun
  obtain ⟨va, σ3, t3, hv3, hS3, hb3⟩ := append_spec encBOk z2 [m.r0, m.r1, m.r2, m.r3] (by simp)
  have t3' : appendCells 5 1 (some ⟨σ1.next, 0, none⟩) 4 4 4 ([m.r0, m.r1, m.r2, m.r3].flatMap encB) σ2 = some (va, σ3) := t3
  have v3 : VarAt σ3 σ.next (msgL m (.slice a m.B.length c)) := v2'.same hS3 (by simp [blks]; omega)
  obtain ⟨a3, c3, rfl, hc3⟩ := hv3.len
  have l63 : ld σ3 σ.next 6 = some (.slice a m.B.length c) := v3.ld rfl
  have hva3 : BAt σ3 (.slice a m.B.length c) m.B := SlAt.same (SlAt.same hv1 hS2 nofun) hS3 (fun b hb w => by have := SlAt.lt hv b hb; simp [blks] at w; omega)
  obtain ⟨v4, σ4, t4, hv4, hS4, hb4⟩ := append_spec encBOk hv3 m.B (by simp; omega)
  obtain ⟨a4, c4, rfl, hc4⟩ := hv4.len
  have hr4 : BAt σ4 (.slice a4 (rawM m).length c4) (rawM m) := hv4
  have t4' : appendCells 5 1 a3 8 c3 m.B.length (m.B.flatMap encB) σ3 = some (.slice a4 (rawM m).length c4, σ4) := t4
  rw [W_start (m := 34) (keep := [3]) Tryd.func6 rfl (by kernel_rfl) (by kernel_rfl) (by first | rfl | assumption | exact f.h6) (by rfl)]
  simp (maxSteps := 2000000) only [B0, B1, B2, B3, B4, B5, B6, B7, Gd, extV, Nat.reduceLT, Nat.reduceEqDiff, Nat.reduceBEq, Nat.reduceAdd, Nat.reduceSub, Nat.reduceMul, ↓reduceIte, reduceCtorEq, if_true, if_false, ite_true, ite_false, Int.reduceLT, Int.reduceLE, ptr, Tryd.fa_25_3, Tryd.ld_23, Tryd.len_23, Tryd.fa_25_0, Tryd.ld_5, Tryd.fa_25_1, Tryd.fa_25_2, callV_func Tryd.enters_21, Tryd.ia_23, Tryd.st_5, Value.cells,  msg_list,  msg_size,  e1,  l6,  hgt, rs_two (show Tryd.f6.results = #[.tmp 2,  .tmp 3] from rfl)]
  refine Eq.mpr (W_retold (ps := [(4, 6)]) (by kernel_rfl) (by kernel_rfl) (by simp)) ?_
  simp (maxSteps := 2000000) only [B0, B1, B2, B3, B4, B5, B6, B7, Gd, extV, Nat.reduceLT, Nat.reduceEqDiff, Nat.reduceBEq, Nat.reduceAdd, Nat.reduceSub, Nat.reduceMul, ↓reduceIte, reduceCtorEq, if_true, if_false, ite_true, ite_false, Int.reduceLT, Int.reduceLE, ptr, Tryd.fa_25_3, Tryd.ld_23, Tryd.len_23, Tryd.fa_25_0, Tryd.ld_5, Tryd.fa_25_1, Tryd.fa_25_2, callV_func Tryd.enters_21, Tryd.ia_23, Tryd.st_5, l0,  l1,  bs,  slice_arr4,  append_eq Tryd.underlying23 Tryd.underlying23 Tryd.elem_5 (var_cells4 v2'),  t3',  l63,  append_eq Tryd.underlying23 Tryd.underlying23 Tryd.elem_5 (hva3.first encBOk),  t4', rs_two (show Tryd.f6.results = #[.tmp 2,  .tmp 3] from rfl)]
  have hB := rawM_bytb hm
  have hlr : (rawM m).length = 8 + m.B.length := rawM_len
  refine sum21_run f hr4 hB (by omega) (by omega) ?_
  have hs := f16_le (wt (rawM m) (rawM m).length)
  have hs2 : sumN (rawM m) = 65535 - f16 (wt (rawM m) (rawM m).length) := rfl
  obtain ⟨b, o, cap, σ5, e5, t5, hv5, hS5, hn5⟩ := BAt.put hr4 (i := 2) (by omega) (sumN (rawM m) / 256)
  injection e5 with e5 _ e6
  subst e5 e6
  obtain ⟨b', o', cap', σ6, e6, t6, hv6, hS6, hn6⟩ := BAt.put hv5 (i := 3) (by rw [List.length_set]; omega) (sumN (rawM m) % 256)
  injection e6 with e6 _ e7
  injection e6 with e6
  injection e6 with e6 e8
  subst e6 e7 e8
  have i2 : 2 < (rawM m).length := by omega
  have i3 : 3 < (rawM m).length := by omega
  have x2 : idx (.int .i64 2) (rawM m).length = some 2 := idx_at 2 i2
  have x3 : idx (.int .i64 3) (rawM m).length = some 3 := idx_at 3 i3
  have w1 : IntKind.u8.wrap ((sumN (rawM m) / 256 : Nat) : Int) = ((sumN (rawM m) / 256 : Nat) : Int) := by rw [wrapU8, Nat.mod_eq_of_lt (by omega)]
  have w2 : IntKind.u8.wrap ((sumN (rawM m) : Nat) : Int) = ((sumN (rawM m) % 256 : Nat) : Int) := by rw [wrapU8]
  simp (maxSteps := 2000000) only [B0, B1, B2, B3, B4, B5, B6, B7, Gd, extV, Nat.reduceLT, Nat.reduceEqDiff, Nat.reduceBEq, Nat.reduceAdd, Nat.reduceSub, Nat.reduceMul, ↓reduceIte, reduceCtorEq, if_true, if_false, ite_true, ite_false, Int.reduceLT, Int.reduceLE, ptr, Tryd.fa_25_3, Tryd.ld_23, Tryd.len_23, Tryd.fa_25_0, Tryd.ld_5, Tryd.fa_25_1, Tryd.fa_25_2, callV_func Tryd.enters_21, Tryd.ia_23, Tryd.st_5, shr8_16,  conv_int Tryd.underlying35 Tryd.underlying5,  w1,  w2,  x2,  x3,  Nat.mul_one,  t5,  t6,  Value.cells,  List.size_toArray, rs_two (show Tryd.f6.results = #[.tmp 2,  .tmp 3] from rfl)]
  have hbb : ∀ x ∈ blks (.slice (some ⟨b, o, none⟩) (rawM m).length c4), σ.next ≤ x := fun x hx => by
    rcases hb4 x hx with q | q
    · rcases hb3 x q with q | q
      · simp [blks] at q; omega
      · have := hS2.next; omega
    · have := hS2.next; have := hS3.next; omega
  have hbo : σ.next ≤ b := hbb b (by simp [blks])
  refine hQ σ6 _ hv6 hbb ((((((hS1.app hS2).app hS3).app hS4).app hS5).app hS6).old fun x hx => ?_)
  simp only [List.append_assoc, List.mem_append, List.mem_singleton, List.nil_append] at hx
  refine .inr ?_
  rcases hx with hx | hx | rfl | rfl
  · simp [blks] at hx; omega
  · rcases hb3 x hx with q | q
    · simp [blks] at q; omega
    · have := hS2.next; omega
  · exact hbo
  · exact hbo
theorem put6_long (f : FreeI orc) {m : Mg} {a : Option Addr} {l c : Nat} (hl : 65507 < l) (hQ : ∀ σ', Same σ σ' [] → Q (.tuple #[.slice none 0 0, .int .i64 3], σ')) :
    W (acall Tryd.prog gs orc (n + 2) 6 [.agg (msgL m (.slice a l c)).toArray] σ) Q := by
  obtain ⟨σ1, e1, hS1, v1, hn1⟩ := AE.oneVar σ 25 (msgL m (.slice a l c)) false
  have l6 : ld σ1 σ.next 6 = some (.slice a l c) := v1.ld rfl
  have hgt : ((65507 : Int) < (l : Int)) = True := eq_true (by omega)
  rw [W_start (m := 34) (keep := [3]) Tryd.func6 rfl (by kernel_rfl) (by kernel_rfl) (by first | rfl | assumption | exact f.h6) (by rfl)]
  simp (maxSteps := 2000000) only [B0, B1, B2, B3, B4, B5, B6, B7, Gd, extV, Nat.reduceLT, Nat.reduceEqDiff, Nat.reduceBEq, Nat.reduceAdd, Nat.reduceSub, Nat.reduceMul, ↓reduceIte, reduceCtorEq, if_true, if_false, ite_true, ite_false, Int.reduceLT, Int.reduceLE, ptr, Tryd.fa_25_3, Tryd.ld_23, Tryd.len_23, Tryd.fa_25_0, Tryd.ld_5, Tryd.fa_25_1, Tryd.fa_25_2, callV_func Tryd.enters_21, Tryd.ia_23, Tryd.st_5, Value.cells,  msg_list,  msg_size,  e1,  l6,  hgt, rs_two (show Tryd.f6.results = #[.tmp 2,  .tmp 3] from rfl)]
  exact hQ σ1 hS1
theorem bld25z : build' Tryd.prog 25 [] = some (.agg (msgL ⟨0, 0, 0, 0, 0, 0, []⟩ (.slice none 0 0)).toArray) := by kernel_rfl
/-- What Get answers where it reads nothing. -/
theorem get_bad (f : FreeI orc) {v : Value} {A : List Nat} (hv : BAt σ v A) (hB : Byt A) (hl : A.length ≤ 1000) (hn : 1100 < n) (c : Nat) (hc : (A.length < 8 ∧ c = 4) ∨ (8 ≤ A.length ∧ sumN A ≠ 0 ∧ c = 21))
    (hQ : ∀ σ', Same σ σ' [] → Q (.tuple #[.agg (msgL ⟨0, 0, 0, 0, 0, 0, []⟩ (.slice none 0 0)).toArray, .int .i64 (c : Int)], σ')) : W (acall Tryd.prog gs orc (n + 2) 19 [v] σ) Q := by
  obtain ⟨a, k, rfl, _⟩ := hv.len
  obtain ⟨σ1, e1, hS1, v1, hn1⟩ := AE.oneVar σ 25 (msgL ⟨0, 0, 0, 0, 0, 0, []⟩ (.slice none 0 0)) false
  obtain ⟨σ9, t9, v9, hS9, hn9⟩ := v1.store (vs' := msgL ⟨0, 0, 0, 0, 0, 0, []⟩ (.slice none 0 0)) rfl msg_single
  have l9 : ldCells σ9 σ.next 0 7 = some (msgL ⟨0, 0, 0, 0, 0, 0, []⟩ (.slice none 0 0)) := v9.ldCells
  have fin := hQ σ9 ((hS1.app hS9).old fun b hb => by simp at hb; exact .inr (by omega))
  have hv1 := SlAt.same hv hS1 nofun
  rw [W_start (m := 28) (keep := [5]) Tryd.func19 rfl (by kernel_rfl) (by kernel_rfl) (by first | rfl | assumption | exact f.h19) (by rfl)]
  rcases hc with ⟨h8, rfl⟩ | ⟨h8, hs, rfl⟩
  · have h8' : ((A.length : Int) < 8) = True := eq_true (by omega)
    simp (maxSteps := 2000000) only [B0, B1, B2, B3, B4, B5, B6, B7, Gd, extV, Nat.reduceLT, Nat.reduceEqDiff, Nat.reduceBEq, Nat.reduceAdd, Nat.reduceSub, Nat.reduceMul, ↓reduceIte, reduceCtorEq, if_true, if_false, ite_true, ite_false, Int.reduceLT, Int.reduceLE, ptr, allocV_zero Tryd.zero_25, Tryd.len_23, Tryd.st_25, callV_func Tryd.enters_21, Tryd.ia_23, Tryd.ld_5, Tryd.ld_22, callV_func Tryd.enters_26, Tryd.ld_25, msg_zero25,  Value.cells,  msg_list,  msg_size,  e1,  h8',  bld25z,  t9,  l9, rs_ct (show Tryd.f19.results = #[.cell 2 25,  .tmp 3] from rfl)]
    exact fin
  · have h8' : ((A.length : Int) < 8) = False := eq_false (by omega)
    simp (maxSteps := 2000000) only [B0, B1, B2, B3, B4, B5, B6, B7, Gd, extV, Nat.reduceLT, Nat.reduceEqDiff, Nat.reduceBEq, Nat.reduceAdd, Nat.reduceSub, Nat.reduceMul, ↓reduceIte, reduceCtorEq, if_true, if_false, ite_true, ite_false, Int.reduceLT, Int.reduceLE, ptr, allocV_zero Tryd.zero_25, Tryd.len_23, Tryd.st_25, callV_func Tryd.enters_21, Tryd.ia_23, Tryd.ld_5, Tryd.ld_22, callV_func Tryd.enters_26, Tryd.ld_25, msg_zero25,  Value.cells,  msg_list,  msg_size,  e1,  h8', rs_ct (show Tryd.f19.results = #[.cell 2 25,  .tmp 3] from rfl)]
    refine sum21_run f hv1 hB (by omega) (by omega) ?_
    have hs' : ((sumN A : Int) = 0) = False := eq_false (by omega)
    simp (maxSteps := 2000000) only [B0, B1, B2, B3, B4, B5, B6, B7, Gd, extV, Nat.reduceLT, Nat.reduceEqDiff, Nat.reduceBEq, Nat.reduceAdd, Nat.reduceSub, Nat.reduceMul, ↓reduceIte, reduceCtorEq, if_true, if_false, ite_true, ite_false, Int.reduceLT, Int.reduceLE, ptr, allocV_zero Tryd.zero_25, Tryd.len_23, Tryd.st_25, callV_func Tryd.enters_21, Tryd.ia_23, Tryd.ld_5, Tryd.ld_22, callV_func Tryd.enters_26, Tryd.ld_25, hs',  msg_zero25,  Value.cells,  msg_list,  msg_size,  bld25z,  t9,  l9, rs_ct (show Tryd.f19.results = #[.cell 2 25,  .tmp 3] from rfl)]
    exact fin
end Go.Proofs.YtongccpmdndcgaaDoor.Icm
end
/- IcmpKnown's loop over a map. -/
section
set_option linter.all false
namespace Go.Proofs.YtongccpmdndcgaaDoor.Icm
open Go Go.AE Go.Proofs
set_option maxRecDepth 100000
set_option maxHeartbeats 4000000
attribute [local irreducible] Go.AE.Tr.put Go.AE.Tr.get
variable {gs : List Nat} {orc : Orc} {n : Nat} {σ : AHeap} {Q : Value × AHeap → Prop}

section
variable {P : Program} {call : CallF} {d : Option Tmp} {ty : TypeId} {pos : String} {af : Array Edge} {g : Option (Nat × Bool)} {fr : AFr}
theorem aop_insert {t : TypeId} {m k x : Operand} : aop P call ⟨d, .insert t m k x, ty, pos, af, g⟩ fr σ = (mapPut P t (fr.eval m) (fr.eval k) (fr.eval x) σ).map (undef, ·) := rfl
theorem aop_range {t : TypeId} {x : Operand} : aop P call ⟨d, .range t x, ty, pos, af, g⟩ fr σ = range' P t (fr.eval x) σ := rfl
theorem aop_entry {x : Operand} : aop P call ⟨d, .entry x, ty, pos, af, g⟩ fr σ = (entry' (fr.eval x) σ).map (·, σ) := rfl
end
def enE (j k v : Nat) : MapEntry := { key := .int .u8 (k : Int), val := .int .i64 (v : Int), born := j }
/-- A new key. -/
theorem ins_run {r cl : Nat} {es : List MapEntry} {a v : Nat} (hg : σ.get r = some (.map es cl false)) (hl : r < σ.next) (hk : ∀ x ∈ es, ∃ b : Nat, x.key = .int .u8 (b : Int) ∧ a ≠ b) :
    ∃ σ', mapPut Tryd.prog 53 (.map (some r)) (.int .u8 (a : Int)) (.int .i64 (v : Int)) σ = some σ' ∧ σ'.get r = some (.map (es ++ [enE cl a v]) (cl + 1) false) ∧ Same σ σ' [r] ∧ σ'.next = σ.next := by
  have hs : isStr Tryd.prog 5 = false := by unfold isStr; rw [Tryd.underlying5]
  have ho : keyOk Tryd.prog 5 (.int .u8 (a : Int)) = true := by unfold keyOk easyKey; rw [Tryd.underlying5]; rfl
  have hf : ∀ (es : List MapEntry) (i : Nat), (∀ x ∈ es, ∃ b : Nat, x.key = .int .u8 (b : Int) ∧ a ≠ b) → findKey' Tryd.prog 5 false (.int .u8 (a : Int)) es i = some none := by
    intro es
    induction es with
    | nil => exact fun _ _ => rfl
    | cons x es ih =>
      intro i h
      obtain ⟨b, hb, hne⟩ := h x (List.mem_cons_self ..)
      have he : keyEq Tryd.prog 5 false (.int .u8 (a : Int)) x.key = some (decide ((a : Int) = (b : Int))) := by
        rw [hb]
        show pureP Tryd.prog (Op.equal 5 (.int .u8 (a : Int)) (.int .u8 (b : Int))) = _
        exact eq_int Tryd.underlying5
      unfold findKey'
      rw [he, decide_eq_false (by omega)]
      exact ih (i + 1) fun y hy => h y (List.mem_cons_of_mem _ hy)
  refine ⟨σ.set r (.map (es ++ [enE cl a v]) (cl + 1) false), ?_, by rw [AHeap.get_set, if_pos rfl], .set _ _ _, rfl⟩
  simp only [mapPut, Tryd.underlying53, findW, ho, hg, hs, hf es 0 hk]
  rfl
def kvs : List (Nat × Nat) := [(0, 3), (3, 1), (5, 1), (6, 0), (8, 2), (9, 0), (10, 0), (12, 1), (17, 2), (18, 3), (30, 0)]
def esN (j : Nat) : List MapEntry := (List.range j).map fun i => enE i (kvs.getD i (0, 0)).1 (kvs.getD i (0, 0)).2
theorem ins_j {r j : Nat} (hj : j < 11) (hg : σ.get r = some (.map (esN j) j false)) (hl : r < σ.next) :
    ∃ σ', mapPut Tryd.prog 53 (.map (some r)) (.int .u8 ((kvs.getD j (0, 0)).1 : Int)) (.int .i64 ((kvs.getD j (0, 0)).2 : Int)) σ = some σ' ∧ σ'.get r = some (.map (esN (j + 1)) (j + 1) false) ∧ Same σ σ' [r] ∧ σ'.next = σ.next := by
  have := ins_run (a := (kvs.getD j (0, 0)).1) (v := (kvs.getD j (0, 0)).2) hg hl fun x hx => by
    obtain ⟨i, hi, rfl⟩ := List.mem_map.1 hx
    have hi2 := List.mem_range.1 hi
    have h11 : ∀ j, j < 11 → ∀ i, i < j → (kvs.getD j (0, 0)).1 ≠ (kvs.getD i (0, 0)).1 := by decide
    exact ⟨_, rfl, h11 j hj i hi2⟩
  have e : esN j ++ [enE j (kvs.getD j (0, 0)).1 (kvs.getD j (0, 0)).2] = esN (j + 1) := by unfold esN; rw [List.range_succ, List.map_append]; rfl
  rw [e] at this
  exact this
theorem left_less {j : Nat} {seen : List Nat} (hj : j ∉ seen) : ∀ l : List Nat, j ∈ l → (l.filter fun x => decide (x ∉ seen ++ [j])).length < (l.filter fun x => decide (x ∉ seen)).length := by
  have le : ∀ l : List Nat, (l.filter fun x => decide (x ∉ seen ++ [j])).length ≤ (l.filter fun x => decide (x ∉ seen)).length := by
    intro l
    induction l with
    | nil => exact Nat.le_refl _
    | cons x l ih =>
      rw [List.filter_cons, List.filter_cons]
      by_cases hx : x ∈ seen
      · rw [if_neg (by simp [hx]), if_neg (by simp [hx])]; exact ih
      · rw [if_pos (show decide (x ∉ seen) = true by simp [hx])]
        split
        · simp only [List.length_cons]; omega
        · simp only [List.length_cons]; omega
  intro l
  induction l with
  | nil => intro h; cases h
  | cons x l ih =>
    intro h
    rw [List.filter_cons, List.filter_cons]
    by_cases hxj : x = j
    · subst hxj
      rw [if_neg (by simp), if_pos (by simp [hj])]
      have := le l
      simp only [List.length_cons]; omega
    · have hl : j ∈ l := by
        rcases List.mem_cons.1 h with e | e
        · exact absurd e.symm hxj
        · exact e
      have := ih hl
      by_cases hx : x ∈ seen
      · rw [if_neg (by simp [hx]), if_neg (by simp [hx])]; exact this
      · rw [if_pos (show decide (x ∉ seen) = true by simp [hx]), if_pos (by simp [hx, hxj])]; simp only [List.length_cons]; omega
/-- What the loop keeps. -/
def KI (σ0 : AHeap) (r it k : Nat) (fr : AFr) (σ : AHeap) : Prop := ∃ (t : Tr Value) (seen : List Nat), fr = ⟨137, t⟩ ∧ t.get 24 = some (.pointer (some ⟨it, 0, none⟩)) ∧ t.get 0 = some (.bool false) ∧ r < σ.next ∧ it < σ.next ∧ r ≠ it ∧ σ.get r = some (.map (esN 11) 11 false) ∧ σ.get it = some (.mapIter (some r) 11 seen 11) ∧ Glb σ ∧ Same σ0 σ [] ∧ σ0.next ≤ it ∧ k = ((List.range 11).filter fun x => decide (x ∉ seen)).length
theorem kinds11 : ∀ i, i < 11 → (kvs.getD i (0, 0)).2 = kindN (kvs.getD i (0, 0)).1 ∧ (kvs.getD i (0, 0)).1 < 256 := by decide
theorem find11 : ∀ i, i < 11 → (esN 11).find? (fun e => e.born == i) = some (enE i (kvs.getD i (0, 0)).1 (kvs.getD i (0, 0)).2) := by
  intro i hi
  rcases (show i = 0 ∨ i = 1 ∨ i = 2 ∨ i = 3 ∨ i = 4 ∨ i = 5 ∨ i = 6 ∨ i = 7 ∨ i = 8 ∨ i = 9 ∨ i = 10 by omega) with rfl | rfl | rfl | rfl | rfl | rfl | rfl | rfl | rfl | rfl | rfl <;> rfl
end Go.Proofs.YtongccpmdndcgaaDoor.Icm
end
/- Rows of noughts made; a message of eight bytes read. -/
section
set_option linter.all false
namespace Go.Proofs.YtongccpmdndcgaaDoor.Icm
open Go Go.AE Go.Proofs
set_option maxRecDepth 100000
set_option maxHeartbeats 1000000
attribute [local irreducible] Go.AE.Tr.put Go.AE.Tr.get
variable {gs : List Nat} {orc : Orc} {n : Nat} {σ : AHeap} {Q : Value × AHeap → Prop}

def mkS (len : Nat) (σ : AHeap) : Value × AHeap := (.slice (some ⟨σ.next, 0, none⟩) len len, (newCells σ 5 (zerosN [.int .u8 0] len)).2)
theorem aop_makeSlice {len : Nat} (h : len ≤ 1048576) {call : CallF} {d : Option Tmp} {ty : TypeId} {pos : String} {af : Array Edge} {g : Option (Nat × Bool)} {fr : AFr} : aop Tryd.prog call ⟨d, .makeSlice 23 (.const (.int .i64 (len : Int))) (.const (.int .i64 (len : Int))), ty, pos, af, g⟩ fr σ = some (mkS len σ) := by
  have hn : natOf (.int .i64 (len : Int)) = some len := rfl
  simp only [aop, Tryd.underlying23, eval_const, hn, Tryd.elem_5, Nat.ble_eq_true_of_le (Nat.le_refl len), Nat.ble_eq_true_of_le h, Bool.and_self]
  rfl
theorem zeros_flat (len : Nat) : zerosN [.int .u8 0] len = (List.replicate len 0).flatMap encB := by
  induction len with
  | zero => rfl
  | succ n ih => rw [List.replicate_succ, List.flatMap_cons, ← ih]; rfl
theorem mk_sl (len : Nat) : ∃ σ', mkS len σ = (.slice (some ⟨σ.next, 0, none⟩) len len, σ') ∧ BAt σ' (.slice (some ⟨σ.next, 0, none⟩) len len) (List.replicate len 0) ∧ Same σ σ' [] ∧ σ'.next = σ.next + 1 := by
  refine ⟨_, rfl, ?_, .newCells _ _ _ _, rfl⟩
  rw [zeros_flat]
  have := SlAt.new encBOk σ 5 false (List.replicate len 0)
  rwa [List.length_replicate] at this
theorem byt_zeros (len : Nat) : Byt (List.replicate len 0) := fun b hb => by rw [List.eq_of_mem_replicate hb]; omega
theorem bld25c {a : Option Addr} {l c : Nat} : build' Tryd.prog 25 [(3, .slice a l c)] = some (.agg (msgL ⟨0, 0, 0, 0, 0, 0, []⟩ (.slice a l c)).toArray) := by kernel_rfl
theorem ms65508 {call : CallF} {d : Option Tmp} {ty : TypeId} {pos : String} {af : Array Edge} {g : Option (Nat × Bool)} {fr : AFr} : aop Tryd.prog call ⟨d, .makeSlice 23 (.const (.int .i64 65508)) (.const (.int .i64 65508)), ty, pos, af, g⟩ fr σ = some (mkS 65508 σ) := aop_makeSlice (len := 65508) (by omega)
theorem ms65507 {call : CallF} {d : Option Tmp} {ty : TypeId} {pos : String} {af : Array Edge} {g : Option (Nat × Bool)} {fr : AFr} : aop Tryd.prog call ⟨d, .makeSlice 23 (.const (.int .i64 65507)) (.const (.int .i64 65507)), ty, pos, af, g⟩ fr σ = some (mkS 65507 σ) := aop_makeSlice (len := 65507) (by omega)
theorem ms7 {call : CallF} {d : Option Tmp} {ty : TypeId} {pos : String} {af : Array Edge} {g : Option (Nat × Bool)} {fr : AFr} : aop Tryd.prog call ⟨d, .makeSlice 23 (.const (.int .i64 7)) (.const (.int .i64 7)), ty, pos, af, g⟩ fr σ = some (mkS 7 σ) := aop_makeSlice (len := 7) (by omega)
theorem ms8 {call : CallF} {d : Option Tmp} {ty : TypeId} {pos : String} {af : Array Edge} {g : Option (Nat × Bool)} {fr : AFr} : aop Tryd.prog call ⟨d, .makeSlice 23 (.const (.int .i64 8)) (.const (.int .i64 8)), ty, pos, af, g⟩ fr σ = some (mkS 8 σ) := aop_makeSlice (len := 8) (by omega)
theorem ms20 {call : CallF} {d : Option Tmp} {ty : TypeId} {pos : String} {af : Array Edge} {g : Option (Nat × Bool)} {fr : AFr} : aop Tryd.prog call ⟨d, .makeSlice 23 (.const (.int .i64 20)) (.const (.int .i64 20)), ty, pos, af, g⟩ fr σ = some (mkS 20 σ) := aop_makeSlice (len := 20) (by omega)
abbrev nil0 : Mg := ⟨0, 0, 0, 0, 0, 0, []⟩
theorem bld22 {a b c d : Int} : build' Tryd.prog 22 [(0, .int .u8 a), (1, .int .u8 b), (2, .int .u8 c), (3, .int .u8 d)] = some (.agg #[.int .u8 a, .int .u8 b, .int .u8 c, .int .u8 d]) := by kernel_rfl
theorem bld25d {x y a b c d : Int} {s : Option Addr} {l k : Nat} : build' Tryd.prog 25 [(0, .int .u8 x), (1, .int .u8 y), (2, .agg #[.int .u8 a, .int .u8 b, .int .u8 c, .int .u8 d]), (3, .slice s l k)] = some (.agg #[.int .u8 x, .int .u8 y, .int .u8 a, .int .u8 b, .int .u8 c, .int .u8 d, .slice s l k]) := by kernel_rfl
theorem bld25e {a b c d : Int} : build' Tryd.prog 25 [(2, .agg #[.int .u8 a, .int .u8 b, .int .u8 c, .int .u8 d])] = some (.agg #[.int .u8 0, .int .u8 0, .int .u8 a, .int .u8 b, .int .u8 c, .int .u8 d, .slice none 0 0]) := by kernel_rfl
theorem bld25f {x : Int} {a : Option Addr} {l c : Nat} : build' Tryd.prog 25 [(0, .int .u8 x), (3, .slice a l c)] = some (.agg #[.int .u8 x, .int .u8 0, .int .u8 0, .int .u8 0, .int .u8 0, .int .u8 0, .slice a l c]) := by kernel_rfl
def gB : List Nat := [0, 0, 255, 255, 0, 0, 0, 0]
theorem get_ok (f : FreeI orc) {b : Nat} (hv : VarAt σ b [.int .u8 0, .int .u8 0, .int .u8 255, .int .u8 255, .int .u8 0, .int .u8 0, .int .u8 0, .int .u8 0]) (hb : BAt σ (.slice (some ⟨b, 0, none⟩) 8 8) gB) (hn : 1100 < n)
    (hQ : ∀ σ' (vs : List Value), vs.length = 7 → (∀ v ∈ vs, single v = true) → Same σ σ' [] → Q (.tuple #[.agg vs.toArray, .int .i64 0], σ')) : W (acall Tryd.prog gs orc (n + 2) 19 [.slice (some ⟨b, 0, none⟩) 8 8] σ) Q := by
  obtain ⟨σ1, e1, hS1, v1, hn1⟩ := AE.oneVar σ 25 (msgL ⟨0, 0, 0, 0, 0, 0, []⟩ (.slice none 0 0)) false
  have hv1 := hv.same hS1 nofun
  have hb1 := SlAt.same hb hS1 nofun
  have l0 : ld σ1 b 0 = some (.int .u8 0) := hv1.ld rfl
  have l1 : ld σ1 b 1 = some (.int .u8 0) := hv1.ld rfl
  have hBy : Byt gB := by decide
  rw [W_start (m := 28) (keep := [5]) Tryd.func19 rfl (by kernel_rfl) (by kernel_rfl) (by first | rfl | assumption | exact f.h19) (by rfl)]
  simp (maxSteps := 2000000) only [B0, B1, B2, B3, B4, B5, B6, B7, Gd, extV, Nat.reduceLT, Nat.reduceEqDiff, Nat.reduceBEq, Nat.reduceAdd, Nat.reduceSub, Nat.reduceMul, ↓reduceIte, reduceCtorEq, if_true, if_false, ite_true, ite_false, Int.reduceLT, Int.reduceLE, ptr, allocV_zero Tryd.zero_25, Tryd.len_23, Tryd.st_25, callV_func Tryd.enters_21, Tryd.ia_23, Tryd.ld_5, Tryd.ld_22, callV_func Tryd.enters_26, Tryd.ld_25, msg_zero25,  Value.cells,  msg_list,  msg_size,  e1, rs_ct (show Tryd.f19.results = #[.cell 2 25,  .tmp 3] from rfl)]
  refine sum21_run f (A := gB) hb1 hBy (by decide) (show 8 + 10 < n by omega) ?_
  rw [show sumN gB = 0 from by decide +kernel]
  obtain ⟨v4, s4, h4, _⟩ := slice_both (k1 := .i64) (k2 := .i64) (t := 23) (by omega) Tryd.underlying23 Tryd.size_5 hb1 (i := 4) (j := 8) (by omega) (by decide)
  obtain ⟨b', o', cap, rfl, _, _⟩ := BAt.rows h4 (by decide)
  have hf4 : ldCells σ1 b' o' 4 = some [.int .u8 0, .int .u8 0, .int .u8 0, .int .u8 0] := h4.first encBOk
  obtain ⟨v8, s8, h8, _⟩ := slice_drop (kk := .i64) (t := 23) Tryd.underlying23 Tryd.size_5 hb1 (j := 8) (by decide)
  have h8 : BAt σ1 v8 [] := h8
  have s4 : sliceOp Tryd.prog 23 (.slice (some ⟨b, 0, none⟩) 8 8) (some (.int .i64 4)) (some (.int .i64 8)) none σ1 = some (.slice (some ⟨b', o', none⟩) 4 cap) := s4
  have s8 : sliceOp Tryd.prog 23 (.slice (some ⟨b, 0, none⟩) 8 8) (some (.int .i64 8)) none none σ1 = some v8 := s8
  obtain ⟨a8, c8, rfl, _⟩ := h8.len
  have hcap : 4 ≤ cap := by obtain ⟨_, _, e, h⟩ := h4.len; injection e with _ _ e; rw [e]; exact h
  have sp : s2apV Tryd.prog 22 (.slice (some ⟨b', o', none⟩) 4 cap) = some (.pointer (some ⟨b', o', none⟩)) := by simp only [s2apV, Tryd.underlying22]; rfl
  have x0 : idx (.int .i64 0) 8 = some 0 := rfl
  have x1 : idx (.int .i64 1) 8 = some 1 := rfl
  simp (maxSteps := 2000000) only [B0, B1, B2, B3, B4, B5, B6, B7, Gd, extV, Nat.reduceLT, Nat.reduceEqDiff, Nat.reduceBEq, Nat.reduceAdd, Nat.reduceSub, Nat.reduceMul, ↓reduceIte, reduceCtorEq, if_true, if_false, ite_true, ite_false, Int.reduceLT, Int.reduceLE, ptr, allocV_zero Tryd.zero_25, Tryd.len_23, Tryd.st_25, callV_func Tryd.enters_21, Tryd.ia_23, Tryd.ld_5, Tryd.ld_22, callV_func Tryd.enters_26, Tryd.ld_25, rs_ct (show Tryd.f19.results = #[.cell 2 25,  .tmp 3] from rfl)]
  refine Eq.mpr (W_retold (ps := [(12, 2), (12, 5), (12, 7), (12, 9)]) (by kernel_rfl) (by kernel_rfl) (by simp)) ?_
  simp (maxSteps := 2000000) only [B0, B1, B2, B3, B4, B5, B6, B7, Gd, extV, Nat.reduceLT, Nat.reduceEqDiff, Nat.reduceBEq, Nat.reduceAdd, Nat.reduceSub, Nat.reduceMul, ↓reduceIte, reduceCtorEq, if_true, if_false, ite_true, ite_false, Int.reduceLT, Int.reduceLE, ptr, allocV_zero Tryd.zero_25, Tryd.len_23, Tryd.st_25, callV_func Tryd.enters_21, Tryd.ia_23, Tryd.ld_5, Tryd.ld_22, callV_func Tryd.enters_26, Tryd.ld_25, x0,  x1,  Nat.zero_mul,  Nat.one_mul,  l0,  l1,  s4,  aop_s2ap,  sp,  hf4,  s8, rs_ct (show Tryd.f19.results = #[.cell 2 25,  .tmp 3] from rfl)]
  refine clone_run f h8 (by simp) fun σ2 v2 hv2 hb2 hS2 => ?_
  obtain ⟨a2, c2, rfl, _⟩ := hv2.len
  have hlen : ([] : List Nat).length = 0 := rfl
  obtain ⟨σ3, t3, v3, hS3, hn3⟩ := (v1.same hS2 nofun).store (vs' := msgL ⟨0, 0, 0, 0, 0, 0, []⟩ (.slice a2 0 c2)) rfl msg_single
  have l3 : ldCells σ3 σ.next 0 7 = some (msgL ⟨0, 0, 0, 0, 0, 0, []⟩ (.slice a2 0 c2)) := v3.ldCells
  have bl : build' Tryd.prog 25 [(0, .int .u8 0), (1, .int .u8 0), (2, .agg #[.int .u8 0, .int .u8 0, .int .u8 0, .int .u8 0]), (3, .slice a2 0 c2)] = some (.agg (msgL ⟨0, 0, 0, 0, 0, 0, []⟩ (.slice a2 0 c2)).toArray) := by kernel_rfl
  have hlt : b < σ1.next := hv1.1
  have l02 : ld σ2 b 0 = some (.int .u8 0) := (hv1.same hS2 nofun).ld rfl
  have l12 : ld σ2 b 1 = some (.int .u8 0) := (hv1.same hS2 nofun).ld rfl
  have s42 : sliceOp Tryd.prog 23 (.slice (some ⟨b, 0, none⟩) 8 8) (some (.int .i64 4)) (some (.int .i64 8)) none σ2 = some (.slice (some ⟨b', o', none⟩) 4 cap) := by rw [← s4]; exact sliceOp_same Tryd.underlying23 hS2 nofun hlt
  have hf42 : ldCells σ2 b' o' 4 = some [.int .u8 0, .int .u8 0, .int .u8 0, .int .u8 0] := (SlAt.same h4 hS2 nofun).first encBOk
  have sm4 : sameV 6 (.agg #[.int .u8 0, .int .u8 0, .int .u8 0, .int .u8 0]) (.agg #[.int .u8 0, .int .u8 0, .int .u8 0, .int .u8 0]) = true := by simp [sameV]
  simp (maxSteps := 2000000) only [B0, B1, B2, B3, B4, B5, B6, B7, Gd, extV, Nat.reduceLT, Nat.reduceEqDiff, Nat.reduceBEq, Nat.reduceAdd, Nat.reduceSub, Nat.reduceMul, ↓reduceIte, reduceCtorEq, if_true, if_false, ite_true, ite_false, Int.reduceLT, Int.reduceLE, ptr, allocV_zero Tryd.zero_25, Tryd.len_23, Tryd.st_25, callV_func Tryd.enters_21, Tryd.ia_23, Tryd.ld_5, Tryd.ld_22, callV_func Tryd.enters_26, Tryd.ld_25, bl,  Value.cells,  msg_list,  msg_size,  t3,  l3,  l0,  l1,  l02,  l12,  s4,  s42,  hf4,  hf42,  aop_s2ap,  sp,  sm4, rs_ct (show Tryd.f19.results = #[.cell 2 25,  .tmp 3] from rfl)]
  exact hQ σ3 _ rfl msg_single (((hS1.app hS2).app hS3).old fun x hx => by simp at hx; exact .inr (by omega))
end Go.Proofs.YtongccpmdndcgaaDoor.Icm
end
/- IcmpKnown. -/
section
set_option linter.all false
namespace Go.Proofs.YtongccpmdndcgaaDoor.Icm
open Go Go.AE Go.Proofs Go.RowKit
set_option maxRecDepth 100000
set_option maxHeartbeats 4000000
attribute [local irreducible] Go.AE.Tr.put Go.AE.Tr.get

theorem known_law {l : List (String × DataW Unit)} {W : World} {ps : List MemPlace} (hL : DataW.LaidVars Tryd.prog W l ps) (hm : ("toll/icmp.kinds", Rows.laid_toll_icmp_kinds) ∈ l) :
    Calls Tryd.prog 4 #[] W fun e W' => e = .returned (.bool true) ∧ Below W.heap.size W W' := by
  obtain ⟨σ0, ρ0, hR0, hG0, hGl, hro0⟩ := kinds_base hL hm
  have hmix : Tryd.prog.follows .mixedOrders = true := by kernel_rfl
  obtain ⟨n, hn⟩ : ∃ n, 80000 < n := ⟨80001, by omega⟩
  obtain ⟨orc, ho⟩ : ∃ orc : Orc, orc = fun _ => none := ⟨_, rfl⟩
  have f : FreeI orc := ⟨fun _ => by rw [ho]⟩
  have hcall : CallS True Tryd.prog [0] (acall Tryd.prog [0] orc (n + 10)) := acall_sound hmix (by rw [ho]; exact orc_none) _
  refine calls_of_WA (D := True) Tryd.func4 rfl hG0 hR0 hro0 ?_
  skip
  refine WA_seq (R1 := fun e fr σ => e = .normal ∧ fr = ⟨137, (Tr.leaf : Tr Value).put 0 (some (.bool false))⟩ ∧ σ = σ0) (WA_exec (n := n + 10) hmix hcall (by kernel_rfl) ?_) ?_ ?_
  · simp (maxSteps := 2000000) only [B0, B1, B2, B3, B4, B5, B6, B7, Gd, extV, Nat.reduceLT, Nat.reduceEqDiff, Nat.reduceBEq, Nat.reduceAdd, Nat.reduceSub, Nat.reduceMul, ↓reduceIte, reduceCtorEq, if_true, if_false, ite_true, ite_false, Int.reduceLT, Int.reduceLE, ptr, callV_func Tryd.enters_12, callV_func Tryd.enters_6, callV_func Tryd.enters_19, allocV_zero Tryd.zero_25, Tryd.st_25, callV_func Tryd.enters_10, allocV_zero Tryd.zero_39, Tryd.st_39, Tryd.len_23, Tryd.ld_25, callV_func Tryd.enters_16, callV_func Tryd.enters_17, callV_func Tryd.enters_18, rs_tmp (show Tryd.f4.results = #[.tmp 0] from rfl)]
    rfl
  · rintro fr σ ⟨_, rfl, hσ⟩
    rw [hσ]
    clear hσ σ
    refine WA_seq (R1 := fun e fr σ' => e = .normal ∧ ∃ t, fr = ⟨137, t⟩ ∧ Glb σ' ∧ Same σ0 σ' []) ?_ ?_ ?_
    · refine WA_seq (R1 := fun e fr σ' => e = .normal ∧ KI σ0 σ0.next (σ0.next + 1) 11 fr σ') (WA_exec (n := n + 10) hmix hcall (by kernel_rfl) ?_) ?_ ?_
      · obtain ⟨r, hr⟩ : ∃ r, σ0.next = r := ⟨_, rfl⟩
        obtain ⟨τ0, h0⟩ : ∃ τ, (σ0.new (.map [] 0 false)).2 = τ := ⟨_, rfl⟩
        have g0 : τ0.get r = some (.map (esN 0) 0 false) := by rw [← h0, AHeap.get_new, if_pos hr.symm]; rfl
        have n0 : τ0.next = r + 1 := by rw [← h0, ← hr]; rfl
        have S0 : Same σ0 τ0 [] := by rw [← h0]; exact .new _ _
        obtain ⟨τ1, t1, g1, S1, n1⟩ := ins_j (j := 0) (by omega) g0 (by omega)
        obtain ⟨τ2, t2, g2, S2, n2⟩ := ins_j (j := 1) (by omega) g1 (by omega)
        obtain ⟨τ3, t3, g3, S3, n3⟩ := ins_j (j := 2) (by omega) g2 (by omega)
        obtain ⟨τ4, t4, g4, S4, n4⟩ := ins_j (j := 3) (by omega) g3 (by omega)
        obtain ⟨τ5, t5, g5, S5, n5⟩ := ins_j (j := 4) (by omega) g4 (by omega)
        obtain ⟨τ6, t6, g6, S6, n6⟩ := ins_j (j := 5) (by omega) g5 (by omega)
        obtain ⟨τ7, t7, g7, S7, n7⟩ := ins_j (j := 6) (by omega) g6 (by omega)
        obtain ⟨τ8, t8, g8, S8, n8⟩ := ins_j (j := 7) (by omega) g7 (by omega)
        obtain ⟨τ9, t9, g9, S9, n9⟩ := ins_j (j := 8) (by omega) g8 (by omega)
        obtain ⟨τ10, t10, g10, S10, n10⟩ := ins_j (j := 9) (by omega) g9 (by omega)
        obtain ⟨τ11, t11, g11, S11, n11⟩ := ins_j (j := 10) (by omega) g10 (by omega)
        have Sall : Same σ0 τ11 [] := (((((((((((S0.app S1).app S2).app S3).app S4).app S5).app S6).app S7).app S8).app S9).app S10).app S11).old fun x hx => by simp at hx; exact .inr (by omega)
        have hrg : range' Tryd.prog 53 (.map (some r)) τ11 = some (ptr τ11.next 0, (τ11.new (.mapIter (some r) 11 [] 11)).2) := by
          unfold range'
          rw [Tryd.underlying53]
          simp only [g11]
          rfl
        have T1 := t1; have T2 := t2; have T3 := t3; have T4 := t4; have T5 := t5; have T6 := t6; have T7 := t7; have T8 := t8; have T9 := t9; have T10 := t10; have T11 := t11
        simp only [kvs, List.getD_cons_zero, List.getD_cons_succ, Int.cast_ofNat_Int] at T1 T2 T3 T4 T5 T6 T7 T8 T9 T10 T11
        simp (maxSteps := 2000000) only [B0, B1, B2, B3, B4, B5, B6, B7, Gd, extV, Nat.reduceLT, Nat.reduceEqDiff, Nat.reduceBEq, Nat.reduceAdd, Nat.reduceSub, Nat.reduceMul, ↓reduceIte, reduceCtorEq, if_true, if_false, ite_true, ite_false, Int.reduceLT, Int.reduceLE, ptr, callV_func Tryd.enters_12, callV_func Tryd.enters_6, callV_func Tryd.enters_19, allocV_zero Tryd.zero_25, Tryd.st_25, callV_func Tryd.enters_10, allocV_zero Tryd.zero_39, Tryd.st_39, Tryd.len_23, Tryd.ld_25, callV_func Tryd.enters_16, callV_func Tryd.enters_17, callV_func Tryd.enters_18, aop_insert,  aop_range,  h0,  hr,  T1,  T2,  T3,  T4,  T5,  T6,  T7,  T8,  T9,  T10,  T11,  hrg, rs_tmp (show Tryd.f4.results = #[.tmp 0] from rfl)]
        have e11 : τ11.next = r + 1 := by omega
        have hgl : Glb (τ11.new (.mapIter (some r) 11 [] 11)).2 := (hGl.same Sall).same (.new _ _)
        have r1 : (τ11.new (.mapIter (some r) 11 [] 11)).2.get r = some (.map (esN 11) 11 false) := by rw [AHeap.get_new, if_neg (by omega)]; exact g11
        have r2 : (τ11.new (.mapIter (some r) 11 [] 11)).2.get (r + 1) = some (.mapIter (some r) 11 [] 11) := by rw [AHeap.get_new, if_pos e11.symm]
        exact ⟨_, [], rfl, by rw [e11]; simp [get_put, ptr], by simp [get_put], by show r < τ11.next + 1; omega, by show r + 1 < τ11.next + 1; omega, by omega, r1, r2, hgl, Sall.app (.new _ _), by omega, by decide⟩
      · rintro fr σ ⟨_, hI⟩
        refine WA_block (WA_loop (KI σ0 σ0.next (σ0.next + 1)) ?_ 11 hI)
        obtain ⟨r, hr⟩ : ∃ r, σ0.next = r := ⟨_, rfl⟩
        rw [hr]
        rintro k fr σ ⟨t, seen, rfl, t24, t0, hrl, hil, hne, hgr, hgi, hGs, hSs, hle, hk⟩
        have en : ∀ i, i < 11 → entry' (.pointer (some ⟨r + 1, 0, none⟩)) (σ.set (r + 1) (.mapIter (some r) 11 (seen ++ [i]) 11)) = some (.tuple #[.int .u8 ((kvs.getD i (0, 0)).1 : Int), .int .i64 ((kvs.getD i (0, 0)).2 : Int)]) := fun i hi => by
          have h1 : (σ.set (r + 1) (.mapIter (some r) 11 (seen ++ [i]) 11)).get (r + 1) = some (.mapIter (some r) 11 (seen ++ [i]) 11) := by rw [AHeap.get_set, if_pos rfl]
          have h2 : (σ.set (r + 1) (.mapIter (some r) 11 (seen ++ [i]) 11)).get r = some (.map (esN 11) 11 false) := by rw [AHeap.get_set, if_neg hne]; exact hgr
          simp only [entry', h1, h2, List.getLast?_concat, find11 i hi]
          rfl
        refine WA_seq (R1 := fun e fr' σ' => e = .normal ∧ ∃ t, fr' = ⟨137, t⟩ ∧ t.get 24 = some (.pointer (some ⟨r + 1, 0, none⟩)) ∧ t.get 0 = some (.bool false) ∧ ((t.get 26 = some (.bool false) ∧ σ' = σ) ∨ (t.get 26 = some (.bool true) ∧ ∃ i, i < 11 ∧ i ∉ seen ∧ σ' = σ.set (r + 1) (.mapIter (some r) 11 (seen ++ [i]) 11)))) ?_ ?_ ?_
        · refine WA_next hcall rfl (List.all_eq_true.1 (by kernel_rfl)) (by simp [eval_tmp, at_mk, t24]) hgi hgr (fun e he => by obtain ⟨i, hi, rfl⟩ := List.mem_map.1 he; exact List.mem_range.1 hi) (Nat.le_refl _) (fun _ => ?_) (fun e he hns => ?_)
          · simp (maxSteps := 2000000) only [B0, B1, B2, B3, B4, B5, B6, B7, Gd, extV, Nat.reduceLT, Nat.reduceEqDiff, Nat.reduceBEq, Nat.reduceAdd, Nat.reduceSub, Nat.reduceMul, ↓reduceIte, reduceCtorEq, if_true, if_false, ite_true, ite_false, Int.reduceLT, Int.reduceLE, ptr, callV_func Tryd.enters_12, callV_func Tryd.enters_6, callV_func Tryd.enters_19, allocV_zero Tryd.zero_25, Tryd.st_25, callV_func Tryd.enters_10, allocV_zero Tryd.zero_39, Tryd.st_39, Tryd.len_23, Tryd.ld_25, callV_func Tryd.enters_16, callV_func Tryd.enters_17, callV_func Tryd.enters_18, rs_tmp (show Tryd.f4.results = #[.tmp 0] from rfl)]
            exact ⟨_, rfl, by simp [get_put, t24], by simp [get_put, t0], .inl (by simp [get_put])⟩
          · obtain ⟨i, hi, rfl⟩ := List.mem_map.1 he
            simp (maxSteps := 2000000) only [B0, B1, B2, B3, B4, B5, B6, B7, Gd, extV, Nat.reduceLT, Nat.reduceEqDiff, Nat.reduceBEq, Nat.reduceAdd, Nat.reduceSub, Nat.reduceMul, ↓reduceIte, reduceCtorEq, if_true, if_false, ite_true, ite_false, Int.reduceLT, Int.reduceLE, ptr, callV_func Tryd.enters_12, callV_func Tryd.enters_6, callV_func Tryd.enters_19, allocV_zero Tryd.zero_25, Tryd.st_25, callV_func Tryd.enters_10, allocV_zero Tryd.zero_39, Tryd.st_39, Tryd.len_23, Tryd.ld_25, callV_func Tryd.enters_16, callV_func Tryd.enters_17, callV_func Tryd.enters_18, rs_tmp (show Tryd.f4.results = #[.tmp 0] from rfl)]
            exact ⟨_, rfl, by simp [get_put, t24], by simp [get_put, t0], .inr ⟨by simp [get_put], i, List.mem_range.1 hi, hns, rfl⟩⟩
        · rintro fr σ9 ⟨_, t, rfl, u24, u0, ⟨u26, rfl⟩ | ⟨u26, i, hi, hns, rfl⟩⟩
          · refine WA_exec (n := n + 10) hmix hcall (by kernel_rfl) ?_
            simp (maxSteps := 2000000) only [B0, B1, B2, B3, B4, B5, B6, B7, Gd, extV, Nat.reduceLT, Nat.reduceEqDiff, Nat.reduceBEq, Nat.reduceAdd, Nat.reduceSub, Nat.reduceMul, ↓reduceIte, reduceCtorEq, if_true, if_false, ite_true, ite_false, Int.reduceLT, Int.reduceLE, ptr, callV_func Tryd.enters_12, callV_func Tryd.enters_6, callV_func Tryd.enters_19, allocV_zero Tryd.zero_25, Tryd.st_25, callV_func Tryd.enters_10, allocV_zero Tryd.zero_39, Tryd.st_39, Tryd.len_23, Tryd.ld_25, callV_func Tryd.enters_16, callV_func Tryd.enters_17, callV_func Tryd.enters_18, u26, rs_tmp (show Tryd.f4.results = #[.tmp 0] from rfl)]
            exact ⟨_, rfl, hGs, hSs⟩
          · refine WA_exec (n := n + 10) hmix hcall (by kernel_rfl) ?_
            have eni := en i hi
            obtain ⟨hk1, hk2⟩ := kinds11 i hi
            obtain ⟨σ2, h2⟩ : ∃ σ2, σ.set (r + 1) (.mapIter (some r) 11 (seen ++ [i]) 11) = σ2 := ⟨_, rfl⟩
            have hS2 : Same σ σ2 [r + 1] := by rw [← h2]; exact .set _ _ _
            have g2 : σ2.get (r + 1) = some (.mapIter (some r) 11 (seen ++ [i]) 11) := by rw [← h2, AHeap.get_set, if_pos rfl]
            have g2r : σ2.get r = some (.map (esN 11) 11 false) := by rw [← h2, AHeap.get_set, if_neg hne]; exact hgr
            have hS02 : Same σ0 σ2 [] := (hSs.app hS2).old fun x hx => .inr (by simp at hx; omega)
            have n2 := hS2.next
            rw [h2] at eni ⊢
            obtain ⟨key, hkey⟩ : ∃ key, (kvs.getD i (0, 0)).1 = key := ⟨_, rfl⟩
            obtain ⟨val, hval⟩ : ∃ val, (kvs.getD i (0, 0)).2 = val := ⟨_, rfl⟩
            rw [hkey, hval] at eni hk1
            rw [hkey] at hk2
            simp (maxSteps := 2000000) only [B0, B1, B2, B3, B4, B5, B6, B7, Gd, extV, Nat.reduceLT, Nat.reduceEqDiff, Nat.reduceBEq, Nat.reduceAdd, Nat.reduceSub, Nat.reduceMul, ↓reduceIte, reduceCtorEq, if_true, if_false, ite_true, ite_false, Int.reduceLT, Int.reduceLE, ptr, callV_func Tryd.enters_12, callV_func Tryd.enters_6, callV_func Tryd.enters_19, allocV_zero Tryd.zero_25, Tryd.st_25, callV_func Tryd.enters_10, allocV_zero Tryd.zero_39, Tryd.st_39, Tryd.len_23, Tryd.ld_25, callV_func Tryd.enters_16, callV_func Tryd.enters_17, callV_func Tryd.enters_18, u26,  u24,  aop_entry,  eni,  bld25, rs_tmp (show Tryd.f4.results = #[.tmp 0] from rfl)]
            refine kind12_run f (m := ⟨key, 0, 0, 0, 0, 0, []⟩) (v := .slice none 0 0) (hGl.same hS02) hk2 fun σ3 hS3 _ => ?_
            have hkv : ((kindN key : Int) = (val : Int)) = True := eq_true (by omega)
            have n3 := hS3.next
            simp (maxSteps := 2000000) only [B0, B1, B2, B3, B4, B5, B6, B7, Gd, extV, Nat.reduceLT, Nat.reduceEqDiff, Nat.reduceBEq, Nat.reduceAdd, Nat.reduceSub, Nat.reduceMul, ↓reduceIte, reduceCtorEq, if_true, if_false, ite_true, ite_false, Int.reduceLT, Int.reduceLE, ptr, callV_func Tryd.enters_12, callV_func Tryd.enters_6, callV_func Tryd.enters_19, allocV_zero Tryd.zero_25, Tryd.st_25, callV_func Tryd.enters_10, allocV_zero Tryd.zero_39, Tryd.st_39, Tryd.len_23, Tryd.ld_25, callV_func Tryd.enters_16, callV_func Tryd.enters_17, callV_func Tryd.enters_18, hkv, rs_tmp (show Tryd.f4.results = #[.tmp 0] from rfl)]
            refine ⟨_, ?_, _, seen ++ [i], rfl, by simp [get_put, u24], by simp [get_put, u0], by omega, by omega, hne, ?_, ?_, (hGl.same hS02).same hS3, hS02.app hS3, hle, rfl⟩
            · rw [hk]; exact left_less hns (List.range 11) (List.mem_range.2 hi)
            · rw [hS3.get r (by omega) nofun]; exact g2r
            · rw [hS3.get (r + 1) (by omega) nofun]; exact g2
        · rintro e fr σ he ⟨h1, _⟩; exact absurd h1 he
      · rintro e fr σ he ⟨h1, _⟩; exact absurd h1 he
    · rintro fr σ ⟨_, t, rfl, hGs, hSs⟩
      refine WA_exec (n := n + 10) hmix hcall (by kernel_rfl) ?_
      obtain ⟨τ1, m1, b1, S1, _⟩ := mk_sl (σ := σ) 65508
      simp (maxSteps := 2000000) only [B0, B1, B2, B3, B4, B5, B6, B7, Gd, extV, Nat.reduceLT, Nat.reduceEqDiff, Nat.reduceBEq, Nat.reduceAdd, Nat.reduceSub, Nat.reduceMul, ↓reduceIte, reduceCtorEq, if_true, if_false, ite_true, ite_false, Int.reduceLT, Int.reduceLE, ptr, callV_func Tryd.enters_12, callV_func Tryd.enters_6, callV_func Tryd.enters_19, allocV_zero Tryd.zero_25, Tryd.st_25, callV_func Tryd.enters_10, allocV_zero Tryd.zero_39, Tryd.st_39, Tryd.len_23, Tryd.ld_25, callV_func Tryd.enters_16, callV_func Tryd.enters_17, callV_func Tryd.enters_18, ms65508,  m1,  bld25c, rs_tmp (show Tryd.f4.results = #[.tmp 0] from rfl)]
      refine put6_long f (by omega) fun σ1 T1 => ?_
      obtain ⟨τ2, m2, b2, S2, _⟩ := mk_sl (σ := σ1) 65507
      obtain ⟨Z, hZ⟩ : ∃ Z, List.replicate 65507 0 = Z := ⟨_, rfl⟩
      have hZl : Z.length = 65507 := by rw [← hZ, List.length_replicate]
      have hZb : Byt Z := by rw [← hZ]; exact byt_zeros _
      rw [hZ] at b2
      clear hZ
      simp (maxSteps := 2000000) only [B0, B1, B2, B3, B4, B5, B6, B7, Gd, extV, Nat.reduceLT, Nat.reduceEqDiff, Nat.reduceBEq, Nat.reduceAdd, Nat.reduceSub, Nat.reduceMul, ↓reduceIte, reduceCtorEq, if_true, if_false, ite_true, ite_false, Int.reduceLT, Int.reduceLE, ptr, callV_func Tryd.enters_12, callV_func Tryd.enters_6, callV_func Tryd.enters_19, allocV_zero Tryd.zero_25, Tryd.st_25, callV_func Tryd.enters_10, allocV_zero Tryd.zero_39, Tryd.st_39, Tryd.len_23, Tryd.ld_25, callV_func Tryd.enters_16, callV_func Tryd.enters_17, callV_func Tryd.enters_18, ms65507,  m2,  bld25c, rs_tmp (show Tryd.f4.results = #[.tmp 0] from rfl)]
      refine put6_big f (m := ⟨0, 0, 0, 0, 0, 0, Z⟩) ⟨show 0 < 256 by omega, show 0 < 256 by omega, show 0 < 256 by omega, show 0 < 256 by omega, show 0 < 256 by omega, show 0 < 256 by omega, hZb⟩ (by show Z.length ≤ 65507; omega) b2 (by show Z.length + 50 < _; omega) fun σ2 p2 hp2 _ T2 => ?_
      obtain ⟨PM, hPM⟩ : ∃ L, putM ⟨0, 0, 0, 0, 0, 0, Z⟩ = L := ⟨_, rfl⟩
      have hPl : (PM.length : Int) = 65515 := by rw [← hPM]; unfold putM; rw [List.length_set, List.length_set, rawM_len]; show ((8 + Z.length : Nat) : Int) = _; omega
      rw [hPM] at hp2
      obtain ⟨ap, cp, rfl, _⟩ := hp2.len
      obtain ⟨τ3, m3, b3, S3, _⟩ := mk_sl (σ := σ2) 7
      simp (maxSteps := 2000000) only [B0, B1, B2, B3, B4, B5, B6, B7, Gd, extV, Nat.reduceLT, Nat.reduceEqDiff, Nat.reduceBEq, Nat.reduceAdd, Nat.reduceSub, Nat.reduceMul, ↓reduceIte, reduceCtorEq, if_true, if_false, ite_true, ite_false, Int.reduceLT, Int.reduceLE, ptr, callV_func Tryd.enters_12, callV_func Tryd.enters_6, callV_func Tryd.enters_19, allocV_zero Tryd.zero_25, Tryd.st_25, callV_func Tryd.enters_10, allocV_zero Tryd.zero_39, Tryd.st_39, Tryd.len_23, Tryd.ld_25, callV_func Tryd.enters_16, callV_func Tryd.enters_17, callV_func Tryd.enters_18, ms7,  m3, rs_tmp (show Tryd.f4.results = #[.tmp 0] from rfl)]
      refine get_bad f b3 (byt_zeros 7) (by simp) (by omega) 4 (.inl ⟨by simp, rfl⟩) fun σ3 T3 => ?_
      obtain ⟨τ4, τ5, e4, t5, S5, v5, _, _⟩ := AE.newVar σ3 25 (msgL nil0 (.slice none 0 0)) (msgL nil0 (.slice none 0 0)) rfl msg_single
      obtain ⟨τ6, m6, b6, S6, _⟩ := mk_sl (σ := τ5) 8
      simp (maxSteps := 2000000) only [B0, B1, B2, B3, B4, B5, B6, B7, Gd, extV, Nat.reduceLT, Nat.reduceEqDiff, Nat.reduceBEq, Nat.reduceAdd, Nat.reduceSub, Nat.reduceMul, ↓reduceIte, reduceCtorEq, if_true, if_false, ite_true, ite_false, Int.reduceLT, Int.reduceLE, ptr, callV_func Tryd.enters_12, callV_func Tryd.enters_6, callV_func Tryd.enters_19, allocV_zero Tryd.zero_25, Tryd.st_25, callV_func Tryd.enters_10, allocV_zero Tryd.zero_39, Tryd.st_39, Tryd.len_23, Tryd.ld_25, callV_func Tryd.enters_16, callV_func Tryd.enters_17, callV_func Tryd.enters_18, msg_zero25,  Value.cells,  msg_list,  msg_size,  e4,  t5,  ms8,  m6, rs_tmp (show Tryd.f4.results = #[.tmp 0] from rfl)]
      refine get_bad f b6 (byt_zeros 8) (by simp) (by omega) 21 (.inr ⟨by simp, by decide, rfl⟩) fun σ4 T4 => ?_
      obtain ⟨τ7, τ8, e7, t8, S8, v8, _, _⟩ := AE.newVar σ4 25 (msgL nil0 (.slice none 0 0)) (msgL nil0 (.slice none 0 0)) rfl msg_single
      obtain ⟨τ9, e9, S9, v9, _⟩ := AE.oneVar τ8 5 [.int .u8 0, .int .u8 0, .int .u8 255, .int .u8 255, .int .u8 0, .int .u8 0, .int .u8 0, .int .u8 0] false
      have b9 : BAt τ9 (.slice (some ⟨τ8.next, 0, none⟩) 8 8) gB := by rw [← e9]; exact SlAt.new encBOk τ8 5 false gB
      have bs9 : buildSliceV Tryd.prog 23 8 [(0, .int .u8 0), (1, .int .u8 0), (2, .int .u8 255), (3, .int .u8 255), (4, .int .u8 0), (5, .int .u8 0), (6, .int .u8 0), (7, .int .u8 0)] τ8 = some (.slice (some ⟨τ8.next, 0, none⟩) 8 8, τ9) := by rw [← e9]; exact buildSlice_of Tryd.underlying23 Tryd.elem_5 (by decide) rfl
      simp (maxSteps := 2000000) only [B0, B1, B2, B3, B4, B5, B6, B7, Gd, extV, Nat.reduceLT, Nat.reduceEqDiff, Nat.reduceBEq, Nat.reduceAdd, Nat.reduceSub, Nat.reduceMul, ↓reduceIte, reduceCtorEq, if_true, if_false, ite_true, ite_false, Int.reduceLT, Int.reduceLE, ptr, callV_func Tryd.enters_12, callV_func Tryd.enters_6, callV_func Tryd.enters_19, allocV_zero Tryd.zero_25, Tryd.st_25, callV_func Tryd.enters_10, allocV_zero Tryd.zero_39, Tryd.st_39, Tryd.len_23, Tryd.ld_25, callV_func Tryd.enters_16, callV_func Tryd.enters_17, callV_func Tryd.enters_18, msg_zero25,  Value.cells,  msg_list,  msg_size,  e7,  t8,  bs9, rs_tmp (show Tryd.f4.results = #[.tmp 0] from rfl)]
      refine get_ok f v9 b9 (by omega) fun σ5 vs hvl hvs T5 => ?_
      obtain ⟨τ10, τ11, e10, t11, S11, v11, _, _⟩ := AE.newVar σ5 25 (msgL nil0 (.slice none 0 0)) vs (by rw [hvl]; rfl) hvs
      have hG11 : Glb τ11 := ((((((((((((((hGs.same S1).same T1).same S2).same T2).same S3).same T3).same S5).same S6).same T4).same S8).same S9).same T5).same S11))
      simp (maxSteps := 2000000) only [B0, B1, B2, B3, B4, B5, B6, B7, Gd, extV, Nat.reduceLT, Nat.reduceEqDiff, Nat.reduceBEq, Nat.reduceAdd, Nat.reduceSub, Nat.reduceMul, ↓reduceIte, reduceCtorEq, if_true, if_false, ite_true, ite_false, Int.reduceLT, Int.reduceLE, ptr, callV_func Tryd.enters_12, callV_func Tryd.enters_6, callV_func Tryd.enters_19, allocV_zero Tryd.zero_25, Tryd.st_25, callV_func Tryd.enters_10, allocV_zero Tryd.zero_39, Tryd.st_39, Tryd.len_23, Tryd.ld_25, callV_func Tryd.enters_16, callV_func Tryd.enters_17, callV_func Tryd.enters_18, msg_zero25,  Value.cells,  List.size_toArray,  hvl,  e10,  t11,  bld25, rs_tmp (show Tryd.f4.results = #[.tmp 0] from rfl)]
      refine quote10_run f (m := ⟨3, 0, 0, 0, 0, 0, []⟩) (v := .slice none 0 0) hG11 ⟨by decide, by decide, by decide, by decide, by decide, by decide, nofun, by decide⟩ (.inl ⟨rfl, rfl⟩) (by omega) (fun σ6 T6 _ => ?_) (fun σ6 o b h0 => absurd h0 (by decide))
      rw [show quoteC ⟨3, 0, 0, 0, 0, 0, []⟩ = 4 by decide]
      obtain ⟨τ12, τ13, e12, t13, S13, v13, _, _⟩ := AE.newVar σ6 39 zH zH rfl zH_single
      obtain ⟨τ14, m14, b14, S14, _⟩ := mk_sl (σ := τ13) 20
      simp (maxSteps := 2000000) only [B0, B1, B2, B3, B4, B5, B6, B7, Gd, extV, Nat.reduceLT, Nat.reduceEqDiff, Nat.reduceBEq, Nat.reduceAdd, Nat.reduceSub, Nat.reduceMul, ↓reduceIte, reduceCtorEq, if_true, if_false, ite_true, ite_false, Int.reduceLT, Int.reduceLE, ptr, callV_func Tryd.enters_12, callV_func Tryd.enters_6, callV_func Tryd.enters_19, allocV_zero Tryd.zero_25, Tryd.st_25, callV_func Tryd.enters_10, allocV_zero Tryd.zero_39, Tryd.st_39, Tryd.len_23, Tryd.ld_25, callV_func Tryd.enters_16, callV_func Tryd.enters_17, callV_func Tryd.enters_18, zst39,  zH_list,  zH_size,  Value.cells,  e12,  t13,  ms20,  m14,  bld25f, rs_tmp (show Tryd.f4.results = #[.tmp 0] from rfl)]
      refine quote10_run f (m := ⟨3, 0, 0, 0, 0, 0, List.replicate 20 0⟩) (((hG11.same T6).same S13).same S14) ⟨by decide, by decide, by decide, by decide, by decide, by decide, byt_zeros 20, by decide⟩ b14 (by omega) (fun σ7 T7 _ => ?_) (fun σ7 o b h0 => absurd h0 (by decide))
      rw [show quoteC ⟨3, 0, 0, 0, 0, 0, List.replicate 20 0⟩ = 5 by decide]
      obtain ⟨τ15, τ16, e15, t16, S16, v16, _, _⟩ := AE.newVar σ7 39 zH zH rfl zH_single
      obtain ⟨τ17, e17, S17, v17, _⟩ := AE.oneVar τ16 5 [.int .u8 1] false
      have b17 : BAt τ17 (.slice (some ⟨τ16.next, 0, none⟩) 1 1) [1] := by rw [← e17]; exact SlAt.new encBOk τ16 5 false [1]
      have bs17 : buildSliceV Tryd.prog 23 1 [(0, .int .u8 1)] τ16 = some (.slice (some ⟨τ16.next, 0, none⟩) 1 1, τ17) := by rw [← e17]; exact buildSlice_of Tryd.underlying23 Tryd.elem_5 (by decide) rfl
      have hG17 := (((((hG11.same T6).same S13).same S14).same T7).same S16).same S17
      simp (maxSteps := 2000000) only [B0, B1, B2, B3, B4, B5, B6, B7, Gd, extV, Nat.reduceLT, Nat.reduceEqDiff, Nat.reduceBEq, Nat.reduceAdd, Nat.reduceSub, Nat.reduceMul, ↓reduceIte, reduceCtorEq, if_true, if_false, ite_true, ite_false, Int.reduceLT, Int.reduceLE, ptr, callV_func Tryd.enters_12, callV_func Tryd.enters_6, callV_func Tryd.enters_19, allocV_zero Tryd.zero_25, Tryd.st_25, callV_func Tryd.enters_10, allocV_zero Tryd.zero_39, Tryd.st_39, Tryd.len_23, Tryd.ld_25, callV_func Tryd.enters_16, callV_func Tryd.enters_17, callV_func Tryd.enters_18, zst39,  zH_list,  zH_size,  Value.cells,  e15,  t16,  bld22,  bs17,  bld25d, rs_tmp (show Tryd.f4.results = #[.tmp 0] from rfl)]
      refine put6_run f (m := ⟨3, 4, 0, 0, 5, 220, [1]⟩) ⟨by decide, by decide, by decide, by decide, by decide, by decide, by decide, by decide⟩ b17 (by omega) fun σ8 p8 hp8 _ T8 => ?_
      have ep8 : strB (putM ⟨3, 4, 0, 0, 5, 220, [1]⟩) = ⟨#[3, 4, 246, 31, 0, 0, 5, 220, 1]⟩ := by decide +kernel
      obtain ⟨τ18, τ19, e18, t19, S19, v19, _, _⟩ := AE.newVar σ8 25 (msgL nil0 (.slice none 0 0)) (msgL ⟨0, 0, 1, 2, 3, 4, []⟩ (.slice none 0 0)) rfl msg_single
      have c8 := conv_bat (SlAt.same hp8 S19 nofun)
      rw [ep8] at c8
      have hG19 := (hG17.same T8).same S19
      have hmv : (#[.int .u8 0, .int .u8 0, .int .u8 1, .int .u8 2, .int .u8 3, .int .u8 4, .slice none 0 0] : Array Value) = (msgL ⟨0, 0, 1, 2, 3, 4, []⟩ (.slice none 0 0)).toArray := rfl
      have l19 : ldCells τ19 σ8.next 0 7 = some (msgL ⟨0, 0, 1, 2, 3, 4, []⟩ (.slice none 0 0)) := v19.ldCells
      simp (maxSteps := 2000000) only [B0, B1, B2, B3, B4, B5, B6, B7, Gd, extV, Nat.reduceLT, Nat.reduceEqDiff, Nat.reduceBEq, Nat.reduceAdd, Nat.reduceSub, Nat.reduceMul, ↓reduceIte, reduceCtorEq, if_true, if_false, ite_true, ite_false, Int.reduceLT, Int.reduceLE, ptr, callV_func Tryd.enters_12, callV_func Tryd.enters_6, callV_func Tryd.enters_19, allocV_zero Tryd.zero_25, Tryd.st_25, callV_func Tryd.enters_10, allocV_zero Tryd.zero_39, Tryd.st_39, Tryd.len_23, Tryd.ld_25, callV_func Tryd.enters_16, callV_func Tryd.enters_17, callV_func Tryd.enters_18, bld22,  bld25e,  hmv,  msg_zero25,  Value.cells,  msg_list,  msg_size,  e18,  t19,  hPl,  Int.reduceEq,  Int.cast_ofNat_Int,  c8,  l19, rs_tmp (show Tryd.f4.results = #[.tmp 0] from rfl)]
      refine id_run f (m := ⟨0, 0, 1, 2, 3, 4, []⟩) ⟨by decide, by decide, by decide, by decide, by decide, by decide, nofun, by decide⟩ fun σ9 T9 => ?_
      have l9 : ldCells σ9 σ8.next 0 7 = some (msgL ⟨0, 0, 1, 2, 3, 4, []⟩ (.slice none 0 0)) := (v19.same T9 nofun).ldCells
      simp (maxSteps := 2000000) only [B0, B1, B2, B3, B4, B5, B6, B7, Gd, extV, Nat.reduceLT, Nat.reduceEqDiff, Nat.reduceBEq, Nat.reduceAdd, Nat.reduceSub, Nat.reduceMul, ↓reduceIte, reduceCtorEq, if_true, if_false, ite_true, ite_false, Int.reduceLT, Int.reduceLE, ptr, callV_func Tryd.enters_12, callV_func Tryd.enters_6, callV_func Tryd.enters_19, allocV_zero Tryd.zero_25, Tryd.st_25, callV_func Tryd.enters_10, allocV_zero Tryd.zero_39, Tryd.st_39, Tryd.len_23, Tryd.ld_25, callV_func Tryd.enters_16, callV_func Tryd.enters_17, callV_func Tryd.enters_18, Int.cast_ofNat_Int,  Int.reduceEq,  l9,  msg_list,  msg_size, rs_tmp (show Tryd.f4.results = #[.tmp 0] from rfl)]
      refine seq_run f (m := ⟨0, 0, 1, 2, 3, 4, []⟩) ⟨by decide, by decide, by decide, by decide, by decide, by decide, nofun, by decide⟩ fun σ10 T10 => ?_
      simp (maxSteps := 2000000) only [B0, B1, B2, B3, B4, B5, B6, B7, Gd, extV, Nat.reduceLT, Nat.reduceEqDiff, Nat.reduceBEq, Nat.reduceAdd, Nat.reduceSub, Nat.reduceMul, ↓reduceIte, reduceCtorEq, if_true, if_false, ite_true, ite_false, Int.reduceLT, Int.reduceLE, ptr, callV_func Tryd.enters_12, callV_func Tryd.enters_6, callV_func Tryd.enters_19, allocV_zero Tryd.zero_25, Tryd.st_25, callV_func Tryd.enters_10, allocV_zero Tryd.zero_39, Tryd.st_39, Tryd.len_23, Tryd.ld_25, callV_func Tryd.enters_16, callV_func Tryd.enters_17, callV_func Tryd.enters_18, Int.cast_ofNat_Int,  Int.reduceEq, rs_tmp (show Tryd.f4.results = #[.tmp 0] from rfl)]
      refine tells_run f ((hG19.same T9).same T10) (by omega) fun σ11 T11 => ?_
      simp (maxSteps := 2000000) only [B0, B1, B2, B3, B4, B5, B6, B7, Gd, extV, Nat.reduceLT, Nat.reduceEqDiff, Nat.reduceBEq, Nat.reduceAdd, Nat.reduceSub, Nat.reduceMul, ↓reduceIte, reduceCtorEq, if_true, if_false, ite_true, ite_false, Int.reduceLT, Int.reduceLE, ptr, callV_func Tryd.enters_12, callV_func Tryd.enters_6, callV_func Tryd.enters_19, allocV_zero Tryd.zero_25, Tryd.st_25, callV_func Tryd.enters_10, allocV_zero Tryd.zero_39, Tryd.st_39, Tryd.len_23, Tryd.ld_25, callV_func Tryd.enters_16, callV_func Tryd.enters_17, callV_func Tryd.enters_18, rs_tmp (show Tryd.f4.results = #[.tmp 0] from rfl)]
      exact .inr trivial
    · rintro e fr σ he ⟨h1, _⟩; exact absurd h1 he
  · rintro e fr σ he ⟨h1, _⟩; exact absurd h1 he
end Go.Proofs.YtongccpmdndcgaaDoor.Icm
end
