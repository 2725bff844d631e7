/- Texts of this proof, gathered. What each part says stands at its head; conditions: none but those that its theorems name. -/
import Derived.Test.YtongccpmdndcgaaDoorIcb
import Derived.Test.YtongccpmdndcgaaDoorE4
import Derived.Maps.Keyed
import Derived.Maps.Own
import Derived.Maps.OwnSet
import Derived.LaidMore
import Derived.LaidSub
import Derived.MakeChecks
import Derived.Test.YtongccpmdndcgaaDoorRows
import Derived.OpenShut
/- The law's own run. -/
section
set_option linter.all false
namespace Go.Proofs.YtongccpmdndcgaaDoor.Icm
open Go Go.AE Go.Proofs
set_option maxRecDepth 100000
set_option maxHeartbeats 4000000
attribute [local irreducible] Go.AE.Tr.put Go.AE.Tr.get
variable {gs : List Nat} {orc : Orc} {n : Nat} {σ : AHeap} {Q : Value × AHeap → Prop}

theorem ld1 {b o : Nat} {v : Value} (h : ldCells σ b o 1 = some [v]) : ld σ b o = some v := by
  change (match σ.get b with | some (.cells _ c _ _ _) => ldN c o 1 | _ => none) = some [v] at h
  unfold AE.ld
  split at h
  · rename_i n c e g r hg
    rw [hg]
    simp only [ldN] at h
    cases hc : c.get o with
    | none => simp [hc] at h
    | some w => simp [hc] at h; simp only [hc, h]
  · cases h
theorem slr_first {v : Value} {A : List Nat} (h : SlR σ 1 encB v A) : firstCells' 1 A.length σ v = some (A.flatMap encB) := by
  rcases h with ⟨a, c, rfl, rfl⟩ | ⟨b, o, cap, rfl, h2, h3⟩
  · cases a <;> simp [firstCells', AE.ldCells]
  · simp only [firstCells']
    by_cases hA : A = []
    · subst hA; rfl
    have hpos : 0 < A.length := List.length_pos_iff.2 hA
    unfold AE.ldCells
    split
    · rename_i h0
      omega
    · 
      have hl : ∀ (i x : Nat), A[i]? = some x → ld σ b (o + i) = some (.int .u8 (x : Int)) := fun i x hi => by have := ld1 (h3 i x hi); rwa [Nat.mul_one] at this
      have h1 := hl 0 _ (gd_some (A := A) (i := 0) hpos)
      unfold AE.ld at hl h1
      split at h1
      · rename_i n c e g r hg
        simp only [hg] at hl ⊢
        have hfl : (A.flatMap encB).length = A.length * 1 := by rw [flat_encB, List.length_map, Nat.mul_one]
        rw [← hfl]
        refine ldN_of _ _ fun j w hj => ?_
        rw [flat_encB, List.getElem?_map] at hj
        cases hx : A[j]? with
        | none => rw [hx] at hj; cases hj
        | some x => rw [hx] at hj; cases hj; exact hl j x hx
      · cases h1
theorem quotes (m : Mg) : ∃ x0 x1 x2 x3 x7 x8 x9 b4 b5 b6 L X, ∃ c : Nat,
    (∀ (orc : Orc) (n : Nat) (σ : AHeap) (Q : Value × AHeap → Prop) (v : Value), FreeI orc → Glb σ → m.ok → BAt σ v m.B → 500 < n →
      (∀ σ' o body, BAt σ' o L → BAt σ' body X → Same σ σ' [] → Q (.tuple #[.agg (genL x0 x1 x2 x3 b4 b5 b6 x7 x8 x9 o).toArray, body, .int .i64 (c : Int)], σ')) → W (acall Tryd.prog [0] orc (n + 4) 10 [.agg (msgL m v).toArray] σ) Q) ∧
    (∀ (orc : Orc) (n : Nat) (σ : AHeap) (Q : Value × AHeap → Prop) (v : Value), FreeI orc → m.ok → BAt σ v m.B → 500 < n →
      (∀ σ' o body, BAt σ' o L → BAt σ' body X → Same σ σ' [] → Q (.tuple #[.agg (genL x0 x1 x2 x3 b4 b5 b6 x7 x8 x9 o).toArray, body, .int .i64 (c : Int)], σ')) → W (acall Tryd.prog [0] orc (n + 4) 11 [.agg (msgL m v).toArray] σ) Q) := by
  by_cases h : quoteC m = 0
  · refine ⟨(gd m.B 1 : Int), (gd m.B 8 : Int), (gd m.B 9 : Int), (wd m.B 4 : Int), ((wd m.B 6 % 8192 : Nat) : Int), (ad m.B 12 : Int), (ad m.B 16 : Int), bitB (wd m.B 6) 15, bitB (wd m.B 6) 14, bitB (wd m.B 6) 13, optL m.B, bodyL m.B, 0, ?_, ?_⟩
    · intro orc n σ Q v f hG hm hv hn hQ
      exact quote10_run f hG hm hv hn (fun σ' _ h' => absurd h h') fun σ' o body _ h1 h2 h3 => hQ σ' o body h1 h2 h3
    · intro orc n σ Q v f hm hv hn hQ
      exact quote11_run f hm hv hn (fun σ' _ h' => absurd h h') fun σ' o body _ h1 h2 h3 => hQ σ' o body h1 h2 h3
  · refine ⟨0, 0, 0, 0, 0, 0, 0, false, false, false, [], [], quoteC m, ?_, ?_⟩
    · intro orc n σ Q v f hG hm hv hn hQ
      exact quote10_run f hG hm hv hn (fun σ' h1 _ => hQ σ' (.slice none 0 0) (.slice none 0 0) (.inl ⟨rfl, rfl⟩) (.inl ⟨rfl, rfl⟩) h1) fun σ' o body h' => absurd h' h
    · intro orc n σ Q v f hm hv hn hQ
      exact quote11_run f hm hv hn (fun σ' h1 _ => hQ σ' (.slice none 0 0) (.slice none 0 0) (.inl ⟨rfl, rfl⟩) (.inl ⟨rfl, rfl⟩) h1) fun σ' o body h' => absurd h' h
theorem same_msg {m : Mg} {a : Option Addr} {l c : Nat} : sameV 6 (.agg (msgL m (.slice a l c)).toArray) (.agg (msgL m (.slice a l c)).toArray) = true := by simp [sameV, msgL]
theorem same_gen {x0 x1 x2 x3 x7 x8 x9 : Int} {b4 b5 b6 : Bool} {a : Option Addr} {l c : Nat} : sameV 6 (.agg (genL x0 x1 x2 x3 b4 b5 b6 x7 x8 x9 (.slice a l c)).toArray) (.agg (genL x0 x1 x2 x3 b4 b5 b6 x7 x8 x9 (.slice a l c)).toArray) = true := by simp [sameV, genL]
theorem tells3_run (f : FreeI orc) {m0 : Mg} {v0 : Value} (hG : Glb σ) (hb : m0.ty < 256 ∧ m0.co < 256 ∧ m0.r0 < 256 ∧ m0.r1 < 256 ∧ m0.r2 < 256 ∧ m0.r3 < 256) (hB : Byt m0.B) (hR : SlR σ 1 encB v0 m0.B) (hC : SlCut σ v0) (hn : 600 < n) :
    W (acall Tryd.prog [0] orc (n + 6) 3 [.agg (msgL m0 v0).toArray] σ) fun x => x.1 = .bool true := by
  obtain ⟨a0, c0, rfl⟩ := hR.len
  obtain ⟨σ1, e1, hS1, v1, hn1⟩ := AE.oneVar σ 25 (msgL m0 (.slice a0 m0.B.length c0)) false
  have hR1 := hR.same hS1 nofun
  have hC1 := hC.same hS1 nofun
  have l6 : ld σ1 σ.next 6 = some (.slice a0 m0.B.length c0) := v1.ld rfl
  obtain ⟨vk, sk, hk, _⟩ := hC1.take (kk := .i64) (t := 23) Tryd.underlying23 Tryd.size_5 hR1 (j := min m0.B.length 200) (by omega)
  have hmin : (if (200 : Int) < (m0.B.length : Int) then (200 : Int) else (m0.B.length : Int)) = ((min m0.B.length 200 : Nat) : Int) := by split <;> omega
  obtain ⟨m, hm0⟩ : ∃ m : Mg, m = ⟨m0.ty, m0.co, m0.r0, m0.r1, m0.r2, m0.r3, m0.B.take (min m0.B.length 200)⟩ := ⟨_, rfl⟩
  have hm : m.ok := by
    obtain ⟨h1, h2, h3, h4, h5, h6⟩ := hb
    rw [hm0]
    exact ⟨h1, h2, h3, h4, h5, h6, hB.take _, by show (m0.B.take _).length ≤ 200; rw [List.length_take]; omega⟩
  have hmB : m.B = m0.B.take (min m0.B.length 200) := by rw [hm0]
  rw [← hmB] at hk
  have hlen := hm.len
  have hf := slr_first hk
  obtain ⟨ak, ck, rfl⟩ := hk.len
  obtain ⟨vb, σ2, t2, hv2, hS2, hb2⟩ := append_spec encBOk (σ := σ1) (e := 5) (base := none) (n := 0) (cap := 0) (A := []) (.inl ⟨rfl, rfl⟩) m.B (by simp; omega)
  have hv2 : BAt σ2 vb m.B := hv2
  obtain ⟨ab, cb, rfl, _⟩ := hv2.len
  have hS2 : Same σ1 σ2 [] := hS2
  have v2 := v1.same hS2 nofun
  obtain ⟨σ3, t3, v3, hS3, hn3⟩ := v2.storeAt (i := 6) (by rw [msg_len]; omega) (v := .slice ab m.B.length cb) rfl
  have v3 : VarAt σ3 σ.next (msgL m (.slice ab m.B.length cb)) := by rw [hm0] at v3 ⊢; exact v3
  have hn2 := hS2.next
  have hbb : ∀ x ∈ blks (.slice ab m.B.length cb), σ1.next ≤ x := fun x hx => by
    rcases hb2 x hx with q | q
    · cases q
    · exact q
  have hv3 : BAt σ3 (.slice ab m.B.length cb) m.B := SlAt.same hv2 hS3 (fun x hx w => by have := hbb x hx; simp at w; omega)
  have ll3 : ldCells σ3 σ.next 0 7 = some (msgL m (.slice ab m.B.length cb)) := v3.ldCells
  obtain ⟨σ4, σ5, e4, t5, hS5, v5, hn5, hS4⟩ := AE.newVar σ3 26 (msgL ⟨0, 0, 0, 0, 0, 0, []⟩ (.slice none 0 0)) (msgL m (.slice ab m.B.length cb)) rfl msg_single
  have w5 := v3.same hS5 nofun
  have hS15 : Same σ σ5 [] := (((hS1.app hS2).app hS3).app hS5).old fun b hb => by simp at hb; exact .inr (by omega)
  have hv5 := SlAt.same hv3 hS5 nofun
  have hG5 := hG.same hS15
  have ll5 : ldCells σ5 σ.next 0 7 = some (msgL m (.slice ab m.B.length cb)) := w5.ldCells
  rw [W_start (m := 144) (keep := [10]) Tryd.func3 rfl (by kernel_rfl) (by kernel_rfl) (by first | rfl | assumption | exact f.h3) (by rfl)]
  simp (maxSteps := 2000000) only [B0, B1, B2, B3, B4, B5, B6, B7, Gd, extV, Nat.reduceLT, Nat.reduceEqDiff, Nat.reduceBEq, Nat.reduceAdd, Nat.reduceSub, Nat.reduceMul, ↓reduceIte, reduceCtorEq, if_true, if_false, ite_true, ite_false, Int.reduceLT, Int.reduceLE, ptr, Tryd.fa_25_3, Tryd.ld_23, Tryd.len_23, Tryd.st_23, Tryd.ld_25, allocV_zero Tryd.zero_26, Tryd.st_26, callV_func Tryd.enters_6, Tryd.ld_26, callV_func Tryd.enters_7, callV_func Tryd.enters_8, callV_func Tryd.enters_9, callV_func Tryd.enters_10, allocV_zero Tryd.zero_39, Tryd.st_39, callV_func Tryd.enters_11, allocV_zero Tryd.zero_43, Tryd.st_43, Tryd.fa_25_2, Tryd.ia_22, Tryd.ld_5, callV_func Tryd.enters_12, callV_func Tryd.enters_13, Tryd.ld_39, callV_func Tryd.enters_15, Tryd.ld_43, callV_func Tryd.enters_14, callV_func Tryd.enters_16, callV_func Tryd.enters_17, callV_func Tryd.enters_18, Value.cells,  msg_list,  msg_size,  msg_len,  e1,  l6,  min_int,  hmin,  sk,  List.size_toArray,  append_eq Tryd.underlying23 Tryd.underlying23 Tryd.elem_5 hf,  t2,  t3,  ll3,  msg_zero25,  e4,  t5,  ll5, rs_tmp (show Tryd.f3.results = #[.tmp 2] from rfl)]
  refine put6_run f hm hv5 (by omega) fun σ6 p6 hp6 hb6 hS6 => ?_
  obtain ⟨a6, c6, rfl, _⟩ := hp6.len
  have k6 : ldCells σ6 σ3.next 0 7 = some (msgL m (.slice ab m.B.length cb)) := (v5.same hS6 nofun).ldCells
  simp (maxSteps := 2000000) only [B0, B1, B2, B3, B4, B5, B6, B7, Gd, extV, Nat.reduceLT, Nat.reduceEqDiff, Nat.reduceBEq, Nat.reduceAdd, Nat.reduceSub, Nat.reduceMul, ↓reduceIte, reduceCtorEq, if_true, if_false, ite_true, ite_false, Int.reduceLT, Int.reduceLE, ptr, Tryd.fa_25_3, Tryd.ld_23, Tryd.len_23, Tryd.st_23, Tryd.ld_25, allocV_zero Tryd.zero_26, Tryd.st_26, callV_func Tryd.enters_6, Tryd.ld_26, callV_func Tryd.enters_7, callV_func Tryd.enters_8, callV_func Tryd.enters_9, callV_func Tryd.enters_10, allocV_zero Tryd.zero_39, Tryd.st_39, callV_func Tryd.enters_11, allocV_zero Tryd.zero_43, Tryd.st_43, Tryd.fa_25_2, Tryd.ia_22, Tryd.ld_5, callV_func Tryd.enters_12, callV_func Tryd.enters_13, Tryd.ld_39, callV_func Tryd.enters_15, Tryd.ld_43, callV_func Tryd.enters_14, callV_func Tryd.enters_16, callV_func Tryd.enters_17, callV_func Tryd.enters_18, k6, rs_tmp (show Tryd.f3.results = #[.tmp 2] from rfl)]
  refine put7_run f hm (SlAt.same hv5 hS6 nofun) (by omega) fun σ7 p7 hp7 hb7 hS7 => ?_
  obtain ⟨a7, c7, rfl, _⟩ := hp7.len
  have hS57 := hS6.app hS7
  have j7 : ldCells σ7 σ.next 0 7 = some (msgL m (.slice ab m.B.length cb)) := (w5.same hS57 nofun).ldCells
  simp (maxSteps := 2000000) only [B0, B1, B2, B3, B4, B5, B6, B7, Gd, extV, Nat.reduceLT, Nat.reduceEqDiff, Nat.reduceBEq, Nat.reduceAdd, Nat.reduceSub, Nat.reduceMul, ↓reduceIte, reduceCtorEq, if_true, if_false, ite_true, ite_false, Int.reduceLT, Int.reduceLE, ptr, Tryd.fa_25_3, Tryd.ld_23, Tryd.len_23, Tryd.st_23, Tryd.ld_25, allocV_zero Tryd.zero_26, Tryd.st_26, callV_func Tryd.enters_6, Tryd.ld_26, callV_func Tryd.enters_7, callV_func Tryd.enters_8, callV_func Tryd.enters_9, callV_func Tryd.enters_10, allocV_zero Tryd.zero_39, Tryd.st_39, callV_func Tryd.enters_11, allocV_zero Tryd.zero_43, Tryd.st_43, Tryd.fa_25_2, Tryd.ia_22, Tryd.ld_5, callV_func Tryd.enters_12, callV_func Tryd.enters_13, Tryd.ld_39, callV_func Tryd.enters_15, Tryd.ld_43, callV_func Tryd.enters_14, callV_func Tryd.enters_16, callV_func Tryd.enters_17, callV_func Tryd.enters_18, j7, rs_tmp (show Tryd.f3.results = #[.tmp 2] from rfl)]
  refine back8_run f (hG5.same hS57) hm.ty (by omega) rfl fun σ8 hS8 => ?_
  have hS58 := hS57.app hS8
  have k8 : ldCells σ8 σ3.next 0 7 = some (msgL m (.slice ab m.B.length cb)) := (v5.same hS58 nofun).ldCells
  simp (maxSteps := 2000000) only [B0, B1, B2, B3, B4, B5, B6, B7, Gd, extV, Nat.reduceLT, Nat.reduceEqDiff, Nat.reduceBEq, Nat.reduceAdd, Nat.reduceSub, Nat.reduceMul, ↓reduceIte, reduceCtorEq, if_true, if_false, ite_true, ite_false, Int.reduceLT, Int.reduceLE, ptr, Tryd.fa_25_3, Tryd.ld_23, Tryd.len_23, Tryd.st_23, Tryd.ld_25, allocV_zero Tryd.zero_26, Tryd.st_26, callV_func Tryd.enters_6, Tryd.ld_26, callV_func Tryd.enters_7, callV_func Tryd.enters_8, callV_func Tryd.enters_9, callV_func Tryd.enters_10, allocV_zero Tryd.zero_39, Tryd.st_39, callV_func Tryd.enters_11, allocV_zero Tryd.zero_43, Tryd.st_43, Tryd.fa_25_2, Tryd.ia_22, Tryd.ld_5, callV_func Tryd.enters_12, callV_func Tryd.enters_13, Tryd.ld_39, callV_func Tryd.enters_15, Tryd.ld_43, callV_func Tryd.enters_14, callV_func Tryd.enters_16, callV_func Tryd.enters_17, callV_func Tryd.enters_18, k8, rs_tmp (show Tryd.f3.results = #[.tmp 2] from rfl)]
  refine back9_run f (by omega) fun σ9 hS9 => ?_
  have hS59 := hS58.app hS9
  have j9 : ldCells σ9 σ.next 0 7 = some (msgL m (.slice ab m.B.length cb)) := (w5.same hS59 nofun).ldCells
  obtain ⟨x0, x1, x2, x3, x7, x8, x9, b4, b5, b6, L, X, qc, q10, q11⟩ := quotes m
  simp (maxSteps := 2000000) only [B0, B1, B2, B3, B4, B5, B6, B7, Gd, extV, Nat.reduceLT, Nat.reduceEqDiff, Nat.reduceBEq, Nat.reduceAdd, Nat.reduceSub, Nat.reduceMul, ↓reduceIte, reduceCtorEq, if_true, if_false, ite_true, ite_false, Int.reduceLT, Int.reduceLE, ptr, Tryd.fa_25_3, Tryd.ld_23, Tryd.len_23, Tryd.st_23, Tryd.ld_25, allocV_zero Tryd.zero_26, Tryd.st_26, callV_func Tryd.enters_6, Tryd.ld_26, callV_func Tryd.enters_7, callV_func Tryd.enters_8, callV_func Tryd.enters_9, callV_func Tryd.enters_10, allocV_zero Tryd.zero_39, Tryd.st_39, callV_func Tryd.enters_11, allocV_zero Tryd.zero_43, Tryd.st_43, Tryd.fa_25_2, Tryd.ia_22, Tryd.ld_5, callV_func Tryd.enters_12, callV_func Tryd.enters_13, Tryd.ld_39, callV_func Tryd.enters_15, Tryd.ld_43, callV_func Tryd.enters_14, callV_func Tryd.enters_16, callV_func Tryd.enters_17, callV_func Tryd.enters_18, j9, rs_tmp (show Tryd.f3.results = #[.tmp 2] from rfl)]
  refine q10 _ _ _ _ _ f (hG5.same hS59) hm (SlAt.same hv5 hS59 nofun) (by omega) fun σ10 o10 y10 ho10 hy10 hS10 => ?_
  obtain ⟨oa, oc, rfl, _⟩ := ho10.len
  obtain ⟨ya, yc, rfl, _⟩ := hy10.len
  obtain ⟨σ11, σ12, e11, t12, hS12, v12, hn12, hS11⟩ := AE.newVar σ10 39 zH (genL x0 x1 x2 x3 b4 b5 b6 x7 x8 x9 (.slice oa L.length oc)) rfl gen_single
  have hS512 := (hS59.app hS10).app hS12
  have k12 : ldCells σ12 σ3.next 0 7 = some (msgL m (.slice ab m.B.length cb)) := (v5.same hS512 nofun).ldCells
  simp (maxSteps := 2000000) only [B0, B1, B2, B3, B4, B5, B6, B7, Gd, extV, Nat.reduceLT, Nat.reduceEqDiff, Nat.reduceBEq, Nat.reduceAdd, Nat.reduceSub, Nat.reduceMul, ↓reduceIte, reduceCtorEq, if_true, if_false, ite_true, ite_false, Int.reduceLT, Int.reduceLE, ptr, Tryd.fa_25_3, Tryd.ld_23, Tryd.len_23, Tryd.st_23, Tryd.ld_25, allocV_zero Tryd.zero_26, Tryd.st_26, callV_func Tryd.enters_6, Tryd.ld_26, callV_func Tryd.enters_7, callV_func Tryd.enters_8, callV_func Tryd.enters_9, callV_func Tryd.enters_10, allocV_zero Tryd.zero_39, Tryd.st_39, callV_func Tryd.enters_11, allocV_zero Tryd.zero_43, Tryd.st_43, Tryd.fa_25_2, Tryd.ia_22, Tryd.ld_5, callV_func Tryd.enters_12, callV_func Tryd.enters_13, Tryd.ld_39, callV_func Tryd.enters_15, Tryd.ld_43, callV_func Tryd.enters_14, callV_func Tryd.enters_16, callV_func Tryd.enters_17, callV_func Tryd.enters_18, zst39,  e11,  Value.cells,  gen_size,  gen_list,  t12,  k12, rs_tmp (show Tryd.f3.results = #[.tmp 2] from rfl)]
  refine q11 _ _ _ _ _ f hm (SlAt.same hv5 hS512 nofun) (by omega) fun σ13 o13 y13 ho13 hy13 hS13 => ?_
  obtain ⟨pa, pc, rfl, _⟩ := ho13.len
  obtain ⟨za, zc, rfl, _⟩ := hy13.len
  obtain ⟨σ14, σ15, e14, t15, hS15, v15, hn15, hS14⟩ := AE.newVar σ13 43 zH (genL x0 x1 x2 x3 b4 b5 b6 x7 x8 x9 (.slice pa L.length pc)) rfl gen_single
  have hS515 := (hS512.app hS13).app hS15
  have w15 := w5.same hS515 nofun
  have l2 : ld σ15 σ.next 2 = some (.int .u8 (m.r0 : Int)) := w15.ld rfl
  have l3 : ld σ15 σ.next 3 = some (.int .u8 (m.r1 : Int)) := w15.ld rfl
  have l4 : ld σ15 σ.next 4 = some (.int .u8 (m.r2 : Int)) := w15.ld rfl
  have l5 : ld σ15 σ.next 5 = some (.int .u8 (m.r3 : Int)) := w15.ld rfl
  have hr0 := hm.r0
  have hr1 := hm.r1
  have hr2 := hm.r2
  have hr3 := hm.r3
  have q0 : IntKind.i64.wrap (m.r0 : Int) = (m.r0 : Int) := wrap64 (by omega) (by omega)
  have q1 : IntKind.i64.wrap (m.r1 : Int) = (m.r1 : Int) := wrap64 (by omega) (by omega)
  have q2 : IntKind.i64.wrap (m.r2 : Int) = (m.r2 : Int) := wrap64 (by omega) (by omega)
  have q3 : IntKind.i64.wrap (m.r3 : Int) = (m.r3 : Int) := wrap64 (by omega) (by omega)
  have q4 : IntKind.i64.wrap (256 * (m.r0 : Int)) = 256 * (m.r0 : Int) := wrap64 (by omega) (by omega)
  have q5 : IntKind.i64.wrap (256 * (m.r2 : Int)) = 256 * (m.r2 : Int) := wrap64 (by omega) (by omega)
  have q6 : IntKind.i64.wrap (256 * (m.r0 : Int) + (m.r1 : Int)) = ((m.r0 * 256 + m.r1 : Nat) : Int) := by rw [wrap64 (by omega) (by omega)]; omega
  have q7 : IntKind.i64.wrap (256 * (m.r2 : Int) + (m.r3 : Int)) = ((m.r2 * 256 + m.r3 : Nat) : Int) := by rw [wrap64 (by omega) (by omega)]; omega
  have x0' : idx (.int .i64 0) 4 = some 0 := rfl
  have x1' : idx (.int .i64 1) 4 = some 1 := rfl
  have x2' : idx (.int .i64 2) 4 = some 2 := rfl
  have x3' : idx (.int .i64 3) 4 = some 3 := rfl
  have hS615 : Same σ6 σ15 [] := (((((hS7.app hS8).app hS9).app hS10).app hS12).app hS13).app hS15
  have hS715 : Same σ7 σ15 [] := ((((hS8.app hS9).app hS10).app hS12).app hS13).app hS15
  have cp6 := conv_bat (SlAt.same hp6 hS615 nofun)
  have cp7 := conv_bat (SlAt.same hp7 hS715 nofun)
  have j15 : ldCells σ15 σ.next 0 7 = some (msgL m (.slice ab m.B.length cb)) := w15.ldCells
  have k15 : ldCells σ15 σ3.next 0 7 = some (msgL m (.slice ab m.B.length cb)) := (v5.same hS515 nofun).ldCells
  have hG15 := hG5.same hS515
  simp (maxSteps := 2000000) only [B0, B1, B2, B3, B4, B5, B6, B7, Gd, extV, Nat.reduceLT, Nat.reduceEqDiff, Nat.reduceBEq, Nat.reduceAdd, Nat.reduceSub, Nat.reduceMul, ↓reduceIte, reduceCtorEq, if_true, if_false, ite_true, ite_false, Int.reduceLT, Int.reduceLE, ptr, Tryd.fa_25_3, Tryd.ld_23, Tryd.len_23, Tryd.st_23, Tryd.ld_25, allocV_zero Tryd.zero_26, Tryd.st_26, callV_func Tryd.enters_6, Tryd.ld_26, callV_func Tryd.enters_7, callV_func Tryd.enters_8, callV_func Tryd.enters_9, callV_func Tryd.enters_10, allocV_zero Tryd.zero_39, Tryd.st_39, callV_func Tryd.enters_11, allocV_zero Tryd.zero_43, Tryd.st_43, Tryd.fa_25_2, Tryd.ia_22, Tryd.ld_5, callV_func Tryd.enters_12, callV_func Tryd.enters_13, Tryd.ld_39, callV_func Tryd.enters_15, Tryd.ld_43, callV_func Tryd.enters_14, callV_func Tryd.enters_16, callV_func Tryd.enters_17, callV_func Tryd.enters_18, zst39,  e14,  Value.cells,  gen_size,  gen_list,  t15,  l2,  l3,  l4,  l5,  x0',  x1',  x2',  x3',  Nat.zero_mul,  Nat.one_mul,  conv_int Tryd.underlying5 Tryd.underlying3,  q0,  q1,  q2,  q3,  q4,  q5,  q6,  q7, rs_tmp (show Tryd.f3.results = #[.tmp 2] from rfl)]
  refine Eq.mpr (W_retold (ps := [(12, 13), (29, 30)]) (by kernel_rfl) (by kernel_rfl) (by simp)) ?_
  simp (maxSteps := 2000000) only [B0, B1, B2, B3, B4, B5, B6, B7, Gd, extV, Nat.reduceLT, Nat.reduceEqDiff, Nat.reduceBEq, Nat.reduceAdd, Nat.reduceSub, Nat.reduceMul, ↓reduceIte, reduceCtorEq, if_true, if_false, ite_true, ite_false, Int.reduceLT, Int.reduceLE, ptr, Tryd.fa_25_3, Tryd.ld_23, Tryd.len_23, Tryd.st_23, Tryd.ld_25, allocV_zero Tryd.zero_26, Tryd.st_26, callV_func Tryd.enters_6, Tryd.ld_26, callV_func Tryd.enters_7, callV_func Tryd.enters_8, callV_func Tryd.enters_9, callV_func Tryd.enters_10, allocV_zero Tryd.zero_39, Tryd.st_39, callV_func Tryd.enters_11, allocV_zero Tryd.zero_43, Tryd.st_43, Tryd.fa_25_2, Tryd.ia_22, Tryd.ld_5, callV_func Tryd.enters_12, callV_func Tryd.enters_13, Tryd.ld_39, callV_func Tryd.enters_15, Tryd.ld_43, callV_func Tryd.enters_14, callV_func Tryd.enters_16, callV_func Tryd.enters_17, callV_func Tryd.enters_18, cp6,  cp7,  j15, rs_tmp (show Tryd.f3.results = #[.tmp 2] from rfl)]
  refine kind12_run f hG15 hm.ty fun σ16 hS16 _ => ?_
  have hS516 := hS515.app hS16
  have k16 : ldCells σ16 σ3.next 0 7 = some (msgL m (.slice ab m.B.length cb)) := (v5.same hS516 nofun).ldCells
  simp (maxSteps := 2000000) only [B0, B1, B2, B3, B4, B5, B6, B7, Gd, extV, Nat.reduceLT, Nat.reduceEqDiff, Nat.reduceBEq, Nat.reduceAdd, Nat.reduceSub, Nat.reduceMul, ↓reduceIte, reduceCtorEq, if_true, if_false, ite_true, ite_false, Int.reduceLT, Int.reduceLE, ptr, Tryd.fa_25_3, Tryd.ld_23, Tryd.len_23, Tryd.st_23, Tryd.ld_25, allocV_zero Tryd.zero_26, Tryd.st_26, callV_func Tryd.enters_6, Tryd.ld_26, callV_func Tryd.enters_7, callV_func Tryd.enters_8, callV_func Tryd.enters_9, callV_func Tryd.enters_10, allocV_zero Tryd.zero_39, Tryd.st_39, callV_func Tryd.enters_11, allocV_zero Tryd.zero_43, Tryd.st_43, Tryd.fa_25_2, Tryd.ia_22, Tryd.ld_5, callV_func Tryd.enters_12, callV_func Tryd.enters_13, Tryd.ld_39, callV_func Tryd.enters_15, Tryd.ld_43, callV_func Tryd.enters_14, callV_func Tryd.enters_16, callV_func Tryd.enters_17, callV_func Tryd.enters_18, k16, rs_tmp (show Tryd.f3.results = #[.tmp 2] from rfl)]
  refine kind13_run f fun σ17 hS17 _ => ?_
  have n12 := hS12.next
  have n13 := hS13.next
  have n15 := hS15.next
  have hS1317 := (hS15.app hS16).app hS17
  have hS1217 := hS13.app hS1317
  have hS1517 := hS16.app hS17
  have hS517 := hS515.app hS1517
  have g17 : ldCells σ17 σ10.next 0 11 = some (genL x0 x1 x2 x3 b4 b5 b6 x7 x8 x9 (.slice oa L.length oc)) := (v12.same hS1217 nofun).ldCells
  simp (maxSteps := 2000000) only [B0, B1, B2, B3, B4, B5, B6, B7, Gd, extV, Nat.reduceLT, Nat.reduceEqDiff, Nat.reduceBEq, Nat.reduceAdd, Nat.reduceSub, Nat.reduceMul, ↓reduceIte, reduceCtorEq, if_true, if_false, ite_true, ite_false, Int.reduceLT, Int.reduceLE, ptr, Tryd.fa_25_3, Tryd.ld_23, Tryd.len_23, Tryd.st_23, Tryd.ld_25, allocV_zero Tryd.zero_26, Tryd.st_26, callV_func Tryd.enters_6, Tryd.ld_26, callV_func Tryd.enters_7, callV_func Tryd.enters_8, callV_func Tryd.enters_9, callV_func Tryd.enters_10, allocV_zero Tryd.zero_39, Tryd.st_39, callV_func Tryd.enters_11, allocV_zero Tryd.zero_43, Tryd.st_43, Tryd.fa_25_2, Tryd.ia_22, Tryd.ld_5, callV_func Tryd.enters_12, callV_func Tryd.enters_13, Tryd.ld_39, callV_func Tryd.enters_15, Tryd.ld_43, callV_func Tryd.enters_14, callV_func Tryd.enters_16, callV_func Tryd.enters_17, callV_func Tryd.enters_18, gen_size,  gen_list,  g17,  bin_beql (show Tryd.prog.underlying 4 = some .bool by kernel_rfl), rs_tmp (show Tryd.f3.results = #[.tmp 2] from rfl)]
  refine of_run f fun σ18 hS18 => ?_
  have hS518 := hS517.app hS18
  have g18 : ldCells σ18 σ13.next 0 11 = some (genL x0 x1 x2 x3 b4 b5 b6 x7 x8 x9 (.slice pa L.length pc)) := (v15.same (hS1517.app hS18) nofun).ldCells
  have g17' : ldCells σ17 σ13.next 0 11 = some (genL x0 x1 x2 x3 b4 b5 b6 x7 x8 x9 (.slice pa L.length pc)) := (v15.same hS1517 nofun).ldCells
  simp (maxSteps := 2000000) only [B0, B1, B2, B3, B4, B5, B6, B7, Gd, extV, Nat.reduceLT, Nat.reduceEqDiff, Nat.reduceBEq, Nat.reduceAdd, Nat.reduceSub, Nat.reduceMul, ↓reduceIte, reduceCtorEq, if_true, if_false, ite_true, ite_false, Int.reduceLT, Int.reduceLE, ptr, Tryd.fa_25_3, Tryd.ld_23, Tryd.len_23, Tryd.st_23, Tryd.ld_25, allocV_zero Tryd.zero_26, Tryd.st_26, callV_func Tryd.enters_6, Tryd.ld_26, callV_func Tryd.enters_7, callV_func Tryd.enters_8, callV_func Tryd.enters_9, callV_func Tryd.enters_10, allocV_zero Tryd.zero_39, Tryd.st_39, callV_func Tryd.enters_11, allocV_zero Tryd.zero_43, Tryd.st_43, Tryd.fa_25_2, Tryd.ia_22, Tryd.ld_5, callV_func Tryd.enters_12, callV_func Tryd.enters_13, Tryd.ld_39, callV_func Tryd.enters_15, Tryd.ld_43, callV_func Tryd.enters_14, callV_func Tryd.enters_16, callV_func Tryd.enters_17, callV_func Tryd.enters_18, gen_size,  gen_list,  g18, rs_tmp (show Tryd.f3.results = #[.tmp 2] from rfl)]
  have so1 : BAt σ18 (.slice oa L.length oc) L := SlAt.same (SlAt.same (SlAt.same ho10 hS12 nofun) hS1217 nofun) hS18 nofun
  have so2 : BAt σ18 (.slice pa L.length pc) L := SlAt.same (SlAt.same ho13 hS1317 nofun) hS18 nofun
  refine same_run f so1 so2 fun σ19 hS19 => ?_
  have hS519 := hS518.app hS19
  have cy1 := conv_bat (SlAt.same (SlAt.same (SlAt.same (SlAt.same hy10 hS12 nofun) hS1217 nofun) hS18 nofun) hS19 nofun)
  have cy2 := conv_bat (SlAt.same (SlAt.same (SlAt.same hy13 hS1317 nofun) hS18 nofun) hS19 nofun)
  have j19 : ldCells σ19 σ.next 0 7 = some (msgL m (.slice ab m.B.length cb)) := (w5.same hS519 nofun).ldCells
  simp (maxSteps := 2000000) only [B0, B1, B2, B3, B4, B5, B6, B7, Gd, extV, Nat.reduceLT, Nat.reduceEqDiff, Nat.reduceBEq, Nat.reduceAdd, Nat.reduceSub, Nat.reduceMul, ↓reduceIte, reduceCtorEq, if_true, if_false, ite_true, ite_false, Int.reduceLT, Int.reduceLE, ptr, Tryd.fa_25_3, Tryd.ld_23, Tryd.len_23, Tryd.st_23, Tryd.ld_25, allocV_zero Tryd.zero_26, Tryd.st_26, callV_func Tryd.enters_6, Tryd.ld_26, callV_func Tryd.enters_7, callV_func Tryd.enters_8, callV_func Tryd.enters_9, callV_func Tryd.enters_10, allocV_zero Tryd.zero_39, Tryd.st_39, callV_func Tryd.enters_11, allocV_zero Tryd.zero_43, Tryd.st_43, Tryd.fa_25_2, Tryd.ia_22, Tryd.ld_5, callV_func Tryd.enters_12, callV_func Tryd.enters_13, Tryd.ld_39, callV_func Tryd.enters_15, Tryd.ld_43, callV_func Tryd.enters_14, callV_func Tryd.enters_16, callV_func Tryd.enters_17, callV_func Tryd.enters_18, cy1,  cy2,  j19, rs_tmp (show Tryd.f3.results = #[.tmp 2] from rfl)]
  refine id_run f hm fun σ20 hS20 => ?_
  have q8 : IntKind.i64.wrap ((m.r0 * 256 + m.r1 : Nat) : Int) = ((m.r0 * 256 + m.r1 : Nat) : Int) := wrap64 (by omega) (by omega)
  have q9 : IntKind.i64.wrap ((m.r2 * 256 + m.r3 : Nat) : Int) = ((m.r2 * 256 + m.r3 : Nat) : Int) := wrap64 (by omega) (by omega)
  have j20 : ldCells σ20 σ.next 0 7 = some (msgL m (.slice ab m.B.length cb)) := (w5.same (hS519.app hS20) nofun).ldCells
  simp (maxSteps := 2000000) only [B0, B1, B2, B3, B4, B5, B6, B7, Gd, extV, Nat.reduceLT, Nat.reduceEqDiff, Nat.reduceBEq, Nat.reduceAdd, Nat.reduceSub, Nat.reduceMul, ↓reduceIte, reduceCtorEq, if_true, if_false, ite_true, ite_false, Int.reduceLT, Int.reduceLE, ptr, Tryd.fa_25_3, Tryd.ld_23, Tryd.len_23, Tryd.st_23, Tryd.ld_25, allocV_zero Tryd.zero_26, Tryd.st_26, callV_func Tryd.enters_6, Tryd.ld_26, callV_func Tryd.enters_7, callV_func Tryd.enters_8, callV_func Tryd.enters_9, callV_func Tryd.enters_10, allocV_zero Tryd.zero_39, Tryd.st_39, callV_func Tryd.enters_11, allocV_zero Tryd.zero_43, Tryd.st_43, Tryd.fa_25_2, Tryd.ia_22, Tryd.ld_5, callV_func Tryd.enters_12, callV_func Tryd.enters_13, Tryd.ld_39, callV_func Tryd.enters_15, Tryd.ld_43, callV_func Tryd.enters_14, callV_func Tryd.enters_16, callV_func Tryd.enters_17, callV_func Tryd.enters_18, conv_int Tryd.underlying35 Tryd.underlying3,  q8,  j20, rs_tmp (show Tryd.f3.results = #[.tmp 2] from rfl)]
  refine seq_run f hm fun σ21 hS21 => ?_
  have hS521 := (hS519.app hS20).app hS21
  simp (maxSteps := 2000000) only [B0, B1, B2, B3, B4, B5, B6, B7, Gd, extV, Nat.reduceLT, Nat.reduceEqDiff, Nat.reduceBEq, Nat.reduceAdd, Nat.reduceSub, Nat.reduceMul, ↓reduceIte, reduceCtorEq, if_true, if_false, ite_true, ite_false, Int.reduceLT, Int.reduceLE, ptr, Tryd.fa_25_3, Tryd.ld_23, Tryd.len_23, Tryd.st_23, Tryd.ld_25, allocV_zero Tryd.zero_26, Tryd.st_26, callV_func Tryd.enters_6, Tryd.ld_26, callV_func Tryd.enters_7, callV_func Tryd.enters_8, callV_func Tryd.enters_9, callV_func Tryd.enters_10, allocV_zero Tryd.zero_39, Tryd.st_39, callV_func Tryd.enters_11, allocV_zero Tryd.zero_43, Tryd.st_43, Tryd.fa_25_2, Tryd.ia_22, Tryd.ld_5, callV_func Tryd.enters_12, callV_func Tryd.enters_13, Tryd.ld_39, callV_func Tryd.enters_15, Tryd.ld_43, callV_func Tryd.enters_14, callV_func Tryd.enters_16, callV_func Tryd.enters_17, callV_func Tryd.enters_18, conv_int Tryd.underlying35 Tryd.underlying3,  q9, rs_tmp (show Tryd.f3.results = #[.tmp 2] from rfl)]
  refine tells_run f (hG5.same hS521) (by omega) fun σ22 hS22 => ?_
  simp (maxSteps := 2000000) only [B0, B1, B2, B3, B4, B5, B6, B7, Gd, extV, Nat.reduceLT, Nat.reduceEqDiff, Nat.reduceBEq, Nat.reduceAdd, Nat.reduceSub, Nat.reduceMul, ↓reduceIte, reduceCtorEq, if_true, if_false, ite_true, ite_false, Int.reduceLT, Int.reduceLE, ptr, Tryd.fa_25_3, Tryd.ld_23, Tryd.len_23, Tryd.st_23, Tryd.ld_25, allocV_zero Tryd.zero_26, Tryd.st_26, callV_func Tryd.enters_6, Tryd.ld_26, callV_func Tryd.enters_7, callV_func Tryd.enters_8, callV_func Tryd.enters_9, callV_func Tryd.enters_10, allocV_zero Tryd.zero_39, Tryd.st_39, callV_func Tryd.enters_11, allocV_zero Tryd.zero_43, Tryd.st_43, Tryd.fa_25_2, Tryd.ia_22, Tryd.ld_5, callV_func Tryd.enters_12, callV_func Tryd.enters_13, Tryd.ld_39, callV_func Tryd.enters_15, Tryd.ld_43, callV_func Tryd.enters_14, callV_func Tryd.enters_16, callV_func Tryd.enters_17, callV_func Tryd.enters_18, k15,  k16,  g17',  g18,  gen_size,  gen_list,  RetAt_mkg,  RetAt_lastg,  wanted_g (P := Tryd.prog),  wantB_tt,  wantB_ff,  wantB_tf,  wantB_ft,  wantB_un,  true_implies,  implies_true, rs_tmp (show Tryd.f3.results = #[.tmp 2] from rfl)]
  exact ⟨⟨same_msg, same_msg⟩, same_gen, same_gen⟩
end Go.Proofs.YtongccpmdndcgaaDoor.Icm
end
/- What came in beside listed variables: generic laws. -/
section
set_option linter.all false
namespace Go.AE
open Go.RowKit Go.ChangeShapes Go.WideShapes
variable {D : Prop} {P : Program}
/-- A run that answers true, over memory that is only read; some variables are listed. -/
theorem open_true_g {gs : List Nat} {orc : Orc} (hmix : P.follows .mixedOrders = true) (ho : OrcS D P gs orc) {n : Nat} {f : FuncId} {σ : AHeap} {ρ : Ren} {w : World} {args args' : List Value} (hG : Gl gs ρ) (hR : Rel P ρ σ w) (hro : ∀ b o, σ.get b = some o → o.ro = true) (hl : LR P ρ args args')
    (h : W (acall P gs orc n f args σ) fun r => r.1 = .bool true) : Calls P f args'.toArray w fun e w' => e = .returned (.bool true) ∧ Below w.heap.size w w' := by
  obtain ⟨⟨v, σ'⟩, hc, hv0⟩ := h
  simp only at hv0
  subst hv0
  refine (acall_sound hmix ho n f args σ _ σ' hc ρ w args' hG hl hR).mono fun e w' ⟨ρ', v', he, hv, hR', hE⟩ => ?_
  refine ⟨by rw [he, hv.bool_inv], hE.os, hE.tape, hE.output, hE.size, fun k hk => hE.frame k hk fun ⟨b, o, m, hg, hr, _⟩ => ?_⟩
  rw [hro b o hg] at hr
  cases hr
/-- One more row that is only read. -/
theorem row_on_rel {w : World} {ρ0 : Ren} {σ0 : AHeap} (hR : Rel P ρ0 σ0 w) (hro : ∀ b o, σ0.get b = some o → o.ro = true) {blk off : Nat} {e : TypeId} {cs : Array Value} {fz : Nat × Nat} {vs : List Value} (hb : w.heap[blk]? = some (.cells cs e fz)) (hv : ∀ (i : Nat) v, vs[i]? = some v → cs[i + off]? = some v) (hat : ∀ v ∈ vs, atom v = true) :
    Rel P (fun b => if b = σ0.next then some ⟨blk, off, e, cs.size, false⟩ else ρ0 b) (σ0.new (.cells vs.length (Tr.ofList vs 0 .leaf) e false true)).2 w ∧ ρ0.le (fun b => if b = σ0.next then some ⟨blk, off, e, cs.size, false⟩ else ρ0 b) ∧
    (∀ b o, (σ0.new (.cells vs.length (Tr.ofList vs 0 .leaf) e false true)).2.get b = some o → o.ro = true) := by
  have hle : ρ0.le (fun b => if b = σ0.next then some ⟨blk, off, e, cs.size, false⟩ else ρ0 b) := fun b m hm => by
    have : b ≠ σ0.next := fun q => by rw [q, hR.dom _ (Nat.le_refl _)] at hm; cases hm
    show (if b = σ0.next then _ else ρ0 b) = some m
    rw [if_neg this]; exact hm
  have hall : ∀ b o, (σ0.new (.cells vs.length (Tr.ofList vs 0 .leaf) e false true)).2.get b = some o → o.ro = true := fun b o h => by
    rw [AHeap.get_new] at h
    split at h
    · cases h; rfl
    · exact hro b o h
  refine ⟨⟨fun b hb' => ?_, fun b m hm => ?_, fun b o ho => ?_, fun b1 b2 o1 o2 m1 m2 e1 _ _ _ hr _ => ?_⟩, hle, hall⟩
  · have h1 : σ0.next + 1 ≤ b := hb'
    show (if b = σ0.next then _ else ρ0 b) = none
    rw [if_neg (by omega)]
    exact hR.dom b (by omega)
  · have hm : (if b = σ0.next then some _ else ρ0 b) = some m := hm
    split at hm
    · cases hm; exact (Array.getElem?_eq_some_iff.1 hb).1
    · exact hR.lt b m hm
  · rw [AHeap.get_new] at ho
    split at ho
    · rename_i h0
      cases ho
      refine ⟨_, if_pos h0, rfl, rfl, cs, fz, hb, rfl, (fun q => by cases q), fun i v hi => ?_⟩
      rw [Tr.get_of] at hi
      exact ⟨v, hv i v hi, .atom (hat v (List.mem_of_getElem? hi))⟩
    · rename_i h0
      obtain ⟨m, hm, ho⟩ := hR.obj b o ho
      exact ⟨m, hle b m hm, ho.mono hle⟩
  · have := hall b1 o1 e1; rw [hr] at this; cases this
section
variable {α : Type} {k : Nat} {enc' : α → List Value}
theorem slice_arg_on [Inhabited α] (hE : Enc k enc') (hat : ∀ x, ∀ v ∈ enc' x, atom v = true) {H : Type} {enc : TypeId × Value → H} {w : World} {held : Bool} {t e : TypeId} {a : Option Addr} {len cap : Nat} {d : DataW H} {ps : List MemPlace}
    {ρ0 : Ren} {σ0 : AHeap} (hR0 : Rel P ρ0 σ0 w) (hro0 : ∀ b o, σ0.get b = some o → o.ro = true)
    (ht : P.underlying t = some (.slice e)) (hc : P.cellsOf e = k) (dec : ∀ m cs y, DataW.trod enc P w 0 (fun _ => true) held m e cs = some y → ∃ z : α, cs = enc' z)
    (h : DataW.Trod enc P w 0 (fun _ => true) held t (.slice a len cap) d ps) :
    ∃ σ ρ v A, Rel P ρ σ w ∧ VR P ρ v (.slice a len cap) ∧ SlR σ k enc' v A ∧ (∀ b o, σ.get b = some o → o.ro = true) ∧ SlCut σ v ∧ Same σ0 σ [] ∧ ρ0.le ρ := by
  obtain ⟨fuel, hf⟩ := h
  have hf' : DataW.trod enc P w 0 (fun _ => true) held fuel t [.slice a len cap] = some (d, ps) := by simpa [Value.cells] using hf
  have hk := hE.pos
  rcases Deep.open_slice ht hf' with ⟨e1, _⟩ | ⟨a', len', cap', m, n, Dd, Pl, e1, hb, hl, hm, hmm, hx, hel⟩
  · simp only [List.cons.injEq, Value.slice.injEq, and_true] at e1
    obtain ⟨rfl, rfl, rfl⟩ := e1
    exact ⟨σ0, ρ0, .slice none 0 0, [], hR0, .atom rfl, .inl ⟨_, _, rfl, rfl⟩, hro0, .inl rfl, .refl _ _, Ren.le_refl _⟩
  · simp only [List.cons.injEq, Value.slice.injEq, and_true] at e1
    obtain ⟨rfl, rfl, rfl⟩ := e1
    simp only [if_true] at hmm
    subst hmm
    by_cases h0 : m = 0
    · subst h0
      have : len = 0 := by omega
      subst this
      exact ⟨σ0, ρ0, .slice (some ⟨0, 0, some 0⟩) 0 0, [], hR0, .empty (k := 0) rfl, .inl ⟨_, _, rfl, rfl⟩, hro0, .inr (.inl ⟨⟨0, 0, none⟩, rfl⟩), .refl _ _, Ren.le_refl _⟩
    · obtain ⟨F, hF⟩ := Deep.choose_lt (α := α) (p := fun i x => w.cells? 0 (a'.add (i * k)) k = some (enc' x)) (n := m) (fun i hi => by
        obtain ⟨cs', h1, h2⟩ := hel i hi
        obtain ⟨z, rfl⟩ := dec _ _ _ h2
        rw [hc] at h1
        exact ⟨z, h1⟩)
      obtain ⟨v0, hv0⟩ : ∃ v0, (enc' (F 0))[0]? = some v0 := ⟨_, List.getElem?_eq_getElem (by rw [hE.len]; exact hk)⟩
      have c0 : w.cell? a' = some v0 := by
        obtain ⟨_, h2, h3⟩ := World.cells?_some (hF 0 (by omega))
        have h4 := h3 0 hk
        rw [hv0] at h4
        simpa [Addr.add] using h4
      have hsp : a'.spot = none := World.cell?_spot c0
      obtain ⟨blk, off, spot⟩ := a'
      simp only at hsp
      subst hsp
      have hcell : ∀ i, i < m → ∀ j v, (enc' (F i))[j]? = some v → w.cell? ⟨blk, off + (i * k + j), none⟩ = some v := fun i hi j v hj => by
        obtain ⟨_, h2, h3⟩ := World.cells?_some (hF i hi)
        have hjl : j < k := by have := (List.getElem?_eq_some_iff.1 hj).1; rwa [hE.len] at this
        have h4 := h3 j hjl
        rw [hj, Go.WideShapes.add_plain, Go.WideShapes.add_plain] at h4
        simpa [Nat.add_assoc] using h4
      obtain ⟨cs, e', fz, hblk⟩ : ∃ cs e' fz, w.heap[blk]? = some (.cells cs e' fz) := by
        unfold World.cell? at c0
        simp only at c0
        split at c0
        · rename_i c1 c2 c3 hq; exact ⟨_, _, _, hq⟩
        · cases c0
      have hget : ∀ i, i < m → ∀ j v, (enc' (F i))[j]? = some v → cs[off + (i * k + j)]? = some v := fun i hi j v hj => by
        have := hcell i hi j v hj
        unfold World.cell? at this
        simp only [hblk] at this
        simpa using this
      have hA : ∀ i x, ((List.range len).map F)[i]? = some x → i < len ∧ x = F i := fun i x hi => by
        have hlt := (List.getElem?_eq_some_iff.1 hi).1
        simp at hlt
        refine ⟨hlt, ?_⟩
        rw [List.getElem?_map, List.getElem?_range hlt] at hi
        simpa using hi.symm
      obtain ⟨hRel, hle, hall⟩ := row_on_rel (off := off) hR0 hro0 hblk (vs := ((List.range len).map F).flatMap enc') (fun q v hq => by
          obtain ⟨i, x, j, rfl, h3, h4⟩ := flat_of hE _ q v hq
          obtain ⟨h5, rfl⟩ := hA i x h3
          have := hget i (by omega) j v h4
          rwa [Nat.add_comm] at this) (fun v hv => by
          obtain ⟨x, _, hx⟩ := List.mem_flatMap.1 hv
          exact hat x v hx)
      have hgn : (σ0.new (.cells (((List.range len).map F).flatMap enc').length (Tr.ofList (((List.range len).map F).flatMap enc') 0 .leaf) e' false true)).2.get σ0.next = some (.cells (((List.range len).map F).flatMap enc').length (Tr.ofList (((List.range len).map F).flatMap enc') 0 .leaf) e' false true) := by rw [AHeap.get_new, if_pos rfl]
      refine ⟨_, _, .slice (some ⟨σ0.next, 0, none⟩) len m, (List.range len).map F, hRel, ?_, .inr ⟨σ0.next, 0, m, by simp, Nat.lt_succ_self _, fun i x hi => ?_⟩, hall, .inr (.inr ⟨σ0.next, 0, len, m, _, _, _, _, rfl, hl, by omega, Nat.lt_succ_self _, hgn⟩), .new _ _, hle⟩
      · have := VR.slice (P := P) (ρ := fun b => if b = σ0.next then some (⟨blk, off, e', cs.size, false⟩ : Img) else ρ0 b) (b := σ0.next) (o := 0) (n := len) (c := m) (c' := m) (s := 0) (m := ⟨blk, off, e', cs.size, false⟩) (by simp) hl (Nat.le_refl _) (.inl rfl)
        simpa using this
      · unfold AE.ldCells
        split
        · omega
        · rw [hgn]
          simp only
          have := ldN_of (c := Tr.ofList (((List.range len).map F).flatMap enc') 0 .leaf) (enc' x) (0 + i * k) fun j v hj => by
            rw [Tr.get_of, Nat.zero_add]
            exact flat_get hE _ i x j v hi hj
          rwa [hE.len] at this
end
/-- A listed variable that holds a map: the memory that a run may read. -/
def mapHeap (g : Nat) (e : TypeId) (es : List MapEntry) (cl : Nat) : AHeap := ⟨g + 2, ((Tr.leaf : Tr AObj).put g (some (.cells 1 (Tr.ofList [.map (some (g + 1))] 0 .leaf) e false true))).put (g + 1) (some (.map es cl true))⟩
def mapRen (g : Nat) (e : TypeId) (bm n : Nat) : Ren := fun b => if b = g then some ⟨g, 0, e, n, false⟩ else if b = g + 1 then some ⟨bm, 0, 0, 0, false⟩ else none
theorem mapHeap_get {g : Nat} {e : TypeId} {es : List MapEntry} {cl b : Nat} : (mapHeap g e es cl).get b = if b = g + 1 then some (.map es cl true) else if b = g then some (.cells 1 (Tr.ofList [.map (some (g + 1))] 0 .leaf) e false true) else none := by
  unfold mapHeap AHeap.get
  simp only [Tr.get_put]
  split
  · rfl
  · split <;> rfl
theorem mapHeap_ro {g : Nat} {e : TypeId} {es : List MapEntry} {cl : Nat} : ∀ b o, (mapHeap g e es cl).get b = some o → o.ro = true := by
  intro b o h
  rw [mapHeap_get] at h
  split at h
  · cases h; rfl
  · split at h
    · cases h; rfl
    · cases h
theorem mapHeap_rel {w : World} {g bm cl : Nat} {e : TypeId} {cs : Array Value} {fz : Nat × Nat} {es : Array MapEntry} (hg : w.heap[g]? = some (.cells cs e fz)) (h0 : cs[0]? = some (.map (some bm))) (hb : w.heap[bm]? = some (.map es cl)) (hat : ∀ x ∈ es.toList, atom x.key = true ∧ atom x.val = true) :
    Rel P (mapRen g e bm cs.size) (mapHeap g e es.toList cl) w := by
  refine ⟨fun b hb' => ?_, fun b m hm => ?_, fun b o ho => ?_, fun b1 b2 o1 o2 m1 m2 e1 _ _ _ hr _ => ?_⟩
  · have h1 : g + 2 ≤ b := hb'
    unfold mapRen
    rw [if_neg (by omega), if_neg (by omega)]
  · unfold mapRen at hm
    split at hm
    · cases hm; exact (Array.getElem?_eq_some_iff.1 hg).1
    · split at hm
      · cases hm; exact (Array.getElem?_eq_some_iff.1 hb).1
      · cases hm
  · rw [mapHeap_get] at ho
    split at ho
    · rename_i h1
      cases ho
      refine ⟨⟨bm, 0, 0, 0, false⟩, by unfold mapRen; rw [if_neg (by omega), if_pos h1], rfl, es, hb, rfl, fun i x y hx hy => ?_⟩
      rw [hx] at hy
      cases hy
      obtain ⟨a1, a2⟩ := hat x (List.mem_of_getElem? hx)
      exact ⟨.atom a1, .atom a2, rfl⟩
    · split at ho
      · rename_i h1 h2
        cases ho
        refine ⟨⟨g, 0, e, cs.size, false⟩, by unfold mapRen; rw [if_pos h2], rfl, rfl, cs, fz, hg, rfl, (fun q => by cases q), fun i v hi => ?_⟩
        rw [Tr.get_of] at hi
        cases i with
        | zero =>
          simp at hi
          subst hi
          refine ⟨.map (some bm), by simpa using h0, ?_⟩
          exact VR.map (m := ⟨bm, 0, 0, 0, false⟩) (by unfold mapRen; rw [if_neg (by omega), if_pos rfl])
        | succ i => simp at hi
      · cases ho
  · have := mapHeap_ro b1 o1 e1; rw [hr] at this; cases this
theorem mapRen_gl {g : Nat} {e : TypeId} {bm n : Nat} : Gl [g] (mapRen g e bm n) := fun x hx => by
  simp at hx
  subst hx
  exact ⟨⟨x, 0, e, n, false⟩, by unfold mapRen; rw [if_pos rfl], rfl, rfl⟩
end Go.AE
end
/- The listed table of kinds; a message that came in. -/
section
set_option linter.all false
namespace Go.Proofs.YtongccpmdndcgaaDoor.Icm
open Go Go.AE Go.Proofs Go.RowKit Go.ChangeShapes Go.WideShapes Go.Maps
set_option maxRecDepth 100000
set_option maxHeartbeats 1000000

theorem laid_at {P : Program} {w : World} {l : List (String × DataW Unit)} {n : String} {d : DataW Unit} : ∀ {ps : List MemPlace}, DataW.LaidVars P w l ps → (n, d) ∈ l →
    ∃ g t cs fuel p, P.globalNamed n = some g ∧ (P.globals[g]?).map (·.type) = some t ∧ w.var? P n = some cs ∧ DataW.trod (fun _ => ()) P w 0 (fun _ => true) false fuel t cs.toList = some (d, p) := by
  induction l with
  | nil => intro ps _ h; cases h
  | cons x r ih =>
    intro ps h hm
    obtain ⟨g, t, cs, fuel, p, q, h1, h2, h3, h4, h5, _⟩ := h
    rcases List.mem_cons.1 hm with e | hm
    · cases e
      exact ⟨g, t, cs, fuel, p, h1, h2, h3, h4⟩
    · exact ih h5 hm
theorem laid_vars {l : List (String × DataW Unit)} {W : World} (hp : (l.all fun x => x.2.handleName?.isNone) = true) (h : laidMetH Tryd.prog l W) : ∃ ps, DataW.LaidVars Tryd.prog W l ps := by
  rw [MakeChecks.laidMetH_plain _ _ _ hp] at h
  obtain ⟨ps, h, _⟩ := h
  exact ⟨ps, h⟩
def isKind (t : Nat) : Bool := match (Rows.laid_toll_icmp_kinds : DataW Unit).atKey (.int .u8 (t : Int)) (.lit (.int .i64 0)) with | .lit (.int .i64 n) => n == (kindN t : Int) | _ => false
theorem isKind_all : ∀ t : Nat, t < 256 → isKind t = true := by decide +kernel
theorem kind_at (t : Nat) (h1 : t < 256) (c : Int) (h : (Rows.laid_toll_icmp_kinds : DataW Unit).atKey (.int .u8 (t : Int)) (.lit (.int .i64 0)) = .lit (.int .i64 c)) : c = (kindN t : Int) := by
  have := isKind_all t h1
  unfold isKind at this
  rw [h] at this
  simpa using this
theorem find_some {es : List MapEntry} (h : ∀ x ∈ es, ∃ a, x.key = .int .u8 a) (t : Int) : ∀ i, ∃ r, findKey' Tryd.prog 5 false (.int .u8 t) es i = some r ∧ ∀ j e, r = some (j, e) → e ∈ es := by
  induction es with
  | nil => exact fun i => ⟨none, rfl, fun _ _ e => by cases e⟩
  | cons x es ih =>
    intro i
    obtain ⟨a, ha⟩ := h x (List.mem_cons_self ..)
    have he : keyEq Tryd.prog 5 false (.int .u8 t) x.key = some (decide (t = a)) := by
      rw [ha]
      show pureP Tryd.prog (Op.equal 5 (.int .u8 t) (.int .u8 a)) = _
      exact eq_int Tryd.underlying5
    unfold findKey'
    rw [he]
    by_cases q : t = a
    · rw [decide_eq_true q]
      exact ⟨some (i, x), rfl, fun j e w => by cases w; exact List.mem_cons_self ..⟩
    · rw [decide_eq_false q]
      obtain ⟨r, h1, h2⟩ := ih (fun y hy => h y (List.mem_cons_of_mem _ hy)) (i + 1)
      exact ⟨r, h1, fun j e w => List.mem_cons_of_mem _ (h2 j e w)⟩
theorem lookup_int {es : List MapEntry} {M cl : Nat} {σ : AHeap} (hg : σ.get M = some (.map es cl true)) (hk : ∀ x ∈ es, ∃ a, x.key = .int .u8 a) (hv : ∀ x ∈ es, ∃ a, x.val = .int .i64 a) (t : Int) : ∃ z, lookup' Tryd.prog 53 (.map (some M)) (.int .u8 t) false σ = some (.int .i64 z) := by
  obtain ⟨r, h1, h2⟩ := find_some hk t 0
  have hs : isStr Tryd.prog 5 = false := by unfold isStr; rw [Tryd.underlying5]
  have ho : keyOk Tryd.prog 5 (.int .u8 t) = true := by unfold keyOk easyKey; rw [Tryd.underlying5]; rfl
  unfold lookup'
  rw [Tryd.underlying53]
  simp only [ho, entriesOf, hg, hs, h1]
  cases r with
  | none => exact ⟨0, by rw [show zeroOf Tryd.prog 3 = some (.int .i64 0) by kernel_rfl]; rfl⟩
  | some p =>
    obtain ⟨j, e⟩ := p
    obtain ⟨a, ha⟩ := hv e (h2 j e rfl)
    exact ⟨a, by simp [ha]⟩
theorem kinds_base {l : List (String × DataW Unit)} {W : World} {ps : List MemPlace} (h : DataW.LaidVars Tryd.prog W l ps) (hm : ("toll/icmp.kinds", Rows.laid_toll_icmp_kinds) ∈ l) :
    ∃ σ ρ, Rel Tryd.prog ρ σ W ∧ Gl [0] ρ ∧ Glb σ ∧ ∀ b o, σ.get b = some o → o.ro = true := by
  obtain ⟨g, t, cs, fuel, p, hg, ht, hv, hd⟩ := laid_at h hm
  obtain rfl := Option.some.inj ((show Tryd.prog.globalNamed "toll/icmp.kinds" = some 0 by kernel_rfl).symm.trans hg)
  obtain rfl := Option.some.inj ((show (Tryd.prog.globals[0]?).map (·.type) = some 53 by kernel_rfl).symm.trans ht)
  have hd' : DataW.trod (fun _ => ()) Tryd.prog W 0 (fun _ => true) false fuel 53 cs.toList = some (Rows.laid_toll_icmp_kinds, p) := hd
  rcases WideElems.open_map Tryd.underlying53 hd' with ⟨_, hx⟩ | ⟨bm, es, clock, m, rfl, hcs, hb, _, F, hx⟩
  · simp [Rows.laid_toll_icmp_kinds] at hx
  · simp only [Prod.mk.injEq] at hx
    have hown := World.ownsMap_of_fit (R := plainElem Tryd.prog 3) hb F (fun x _ z hz => elemAt_plainElem_int Tryd.underlying3 hz)
    rw [← hx.1] at hown
    have hc := World.var?_cell hg hv 0
    rw [← Array.getElem?_toList, hcs] at hc
    have hc : W.cell? ⟨0, 0, none⟩ = some (.map (some bm)) := hc
    obtain ⟨cs0, e0, fz, h0, h00⟩ : ∃ cs0 e0 fz, W.heap[0]? = some (.cells cs0 e0 fz) ∧ cs0[0]? = some (.map (some bm)) := by
      unfold World.cell? at hc
      simp only at hc
      split at hc
      · rename_i c1 c2 c3 hq; exact ⟨_, _, _, hq, hc⟩
      · cases hc
    have hkey : ∀ x ∈ es.toList, ∃ a, x.key = .int .u8 a := fun x hx => by
      obtain ⟨y, hy⟩ := F.reads x hx
      have := WideElems.rd_key hy
      rw [keyOf_int Tryd.underlying5] at this
      unfold mapKey at this
      rw [Tryd.underlying5] at this
      cases hxk : x.key <;> rw [hxk] at this <;> simp at this
      obtain ⟨⟨rfl, _⟩, _⟩ := this
      exact ⟨_, rfl⟩
    have hval : ∀ x ∈ es.toList, ∃ a, x.val = .int .i64 a := fun x hx => by
      obtain ⟨y, hy⟩ := F.reads x hx
      obtain ⟨z, hz, _⟩ := WideElems.rd_val hy
      obtain ⟨a, ha, _⟩ := WideElems.elemAt_int Tryd.underlying3 hz
      exact ⟨a, ha⟩
    have hR : Rel Tryd.prog (mapRen 0 e0 bm cs0.size) (mapHeap 0 e0 es.toList clock) W := mapHeap_rel h0 h00 hb fun x hx => by
      obtain ⟨a, ha⟩ := hkey x hx
      obtain ⟨b, hb⟩ := hval x hx
      rw [ha, hb]
      exact ⟨rfl, rfl⟩
    have g1 : (mapHeap 0 e0 es.toList clock).get 1 = some (.map es.toList clock true) := by rw [mapHeap_get, if_pos rfl]
    refine ⟨_, _, hR, mapRen_gl, ⟨1, es.toList, clock, 1, _, e0, false, true, (show 0 < 0 + 2 by omega), (show 1 < 0 + 2 by omega), by rw [mapHeap_get, if_neg (by omega), if_pos rfl], rfl, g1, fun t σ' ht hg' => ?_⟩, mapHeap_ro⟩
    obtain ⟨z, hz⟩ := lookup_int g1 hkey hval (t : Int)
    have hsame : lookup' Tryd.prog 53 (.map (some 1)) (.int .u8 (t : Int)) false σ' = lookup' Tryd.prog 53 (.map (some 1)) (.int .u8 (t : Int)) false (mapHeap 0 e0 es.toList clock) := by
      simp only [lookup', entriesOf, hg', g1]
    rw [hsame, hz]
    have wf : (Lit.int .u8 (t : Int)).wf = true := by simp [Lit.wf, IntKind.min, IntKind.max, IntKind.signed, IntKind.bits]; omega
    obtain ⟨c, hr, ha, _⟩ := hown.lookup_int (int_keyed Tryd.underlying5) Tryd.underlying53 Tryd.underlying3 (by kernel_rfl) (keyOf_int_mk Tryd.underlying5 wf)
    obtain rfl := kind_at t ht c ha
    obtain ⟨ρ', v', w', e1, e2, _⟩ := lookup_out (D := True) hz hR (VR.map (m := ⟨bm, 0, 0, 0, false⟩) (by unfold mapRen; rw [if_neg (by omega), if_pos rfl])) (.atom rfl)
    have e1 : (Instr.lookup 53 (.map (some bm)) (.int .u8 (t : Int)) false).run Tryd.prog W = .ok v' w' := e1
    rw [hr] at e1
    injection e1 with e1 _
    subst e1
    have := e2.int_inv
    injection this with _ this
    rw [this]
theorem byte_of {n : Int} (h : (Lit.int .u8 n).wf = true) : ∃ m : Nat, n = (m : Int) ∧ m < 256 := by
  simp [Lit.wf, IntKind.min, IntKind.max, IntKind.bits, IntKind.signed] at h
  exact ⟨n.toNat, by omega, by omega⟩
/-- A message that came in, opened. -/
theorem msg_in {H : Type} {enc : TypeId × Value → H} {W : World} {held : Bool} {v : Value} {d : DataW H} {ps : List MemPlace}
    {base' : Nat} (ho : Value.okWide Tryd.prog W .any base' 25 v) (h : DataW.Trod enc Tryd.prog W 0 (fun _ => true) held 25 v d ps) :
    ∃ t c r0 r1 r2 r3 : Nat, ∃ A n cap d' ps', (t < 256 ∧ c < 256 ∧ r0 < 256 ∧ r1 < 256 ∧ r2 < 256 ∧ r3 < 256) ∧ v = .agg #[.int .u8 t, .int .u8 c, .int .u8 r0, .int .u8 r1, .int .u8 r2, .int .u8 r3, .slice A n cap] ∧ DataW.Trod enc Tryd.prog W 0 (fun _ => true) held 23 (.slice A n cap) d' ps' := by
  obtain ⟨cs, rfl, hcs⟩ := okWide_struct Tryd.underlying25 ho
  rw [show Tryd.prog.cellsOf 25 = 7 by kernel_rfl] at hcs
  obtain ⟨fuel, hf⟩ := h
  have hf' : DataW.trod enc Tryd.prog W 0 (fun _ => true) held fuel 25 cs.toList = some (d, ps) := by simpa [Value.cells] using hf
  obtain ⟨c0, c1, c2, c3, c4, c5, c6, rfl⟩ : ∃ c0 c1 c2 c3 c4 c5 c6, cs = #[c0, c1, c2, c3, c4, c5, c6] := by
    rcases cs with ⟨l⟩
    rcases l with _ | ⟨c0, _ | ⟨c1, _ | ⟨c2, _ | ⟨c3, _ | ⟨c4, _ | ⟨c5, _ | ⟨c6, _ | ⟨c7, l⟩⟩⟩⟩⟩⟩⟩⟩
    all_goals first | (simp at hcs; done) | exact ⟨_, _, _, _, _, _, _, rfl⟩ | (simp at hcs; omega)
  obtain ⟨ys, m, rfl, hx, _, hlen, hfl⟩ := DataW.trod_struct Tryd.underlying25 hf'
  have one : ∀ i, i < 4 → ∃ y, ys[i]? = some y := fun i hi => ⟨ys[i]'(by rw [hlen]; exact hi), List.getElem?_eq_getElem _⟩
  have s5 : Tryd.prog.cellsOf 5 = 1 := by kernel_rfl
  have s4 : Tryd.prog.cellsOf 22 = 4 := by kernel_rfl
  have s3 : Tryd.prog.cellsOf 23 = 1 := by kernel_rfl
  have g0 : DataW.trod enc Tryd.prog W 0 (fun _ => true) held m 5 [c0] = ys[0]? := by
    have g := hfl 0 _ rfl
    change DataW.trod enc Tryd.prog W 0 (fun _ => true) held m 5 (List.take (Tryd.prog.cellsOf 5) [c0, c1, c2, c3, c4, c5, c6]) = _ at g
    rw [s5] at g
    exact g
  have g1 : DataW.trod enc Tryd.prog W 0 (fun _ => true) held m 5 [c1] = ys[1]? := by
    have g := hfl 1 _ rfl
    change DataW.trod enc Tryd.prog W 0 (fun _ => true) held m 5 (List.take (Tryd.prog.cellsOf 5) [c1, c2, c3, c4, c5, c6]) = _ at g
    rw [s5] at g
    exact g
  have g2 : DataW.trod enc Tryd.prog W 0 (fun _ => true) held m 22 [c2, c3, c4, c5] = ys[2]? := by
    have g := hfl 2 _ rfl
    change DataW.trod enc Tryd.prog W 0 (fun _ => true) held m 22 (List.take (Tryd.prog.cellsOf 22) [c2, c3, c4, c5, c6]) = _ at g
    rw [s4] at g
    exact g
  have g3 : DataW.trod enc Tryd.prog W 0 (fun _ => true) held m 23 [c6] = ys[3]? := by
    have g := hfl 3 _ rfl
    change DataW.trod enc Tryd.prog W 0 (fun _ => true) held m 23 (List.take (Tryd.prog.cellsOf 23) [c6]) = _ at g
    rw [s3] at g
    exact g
  obtain ⟨y0, e0⟩ := one 0 (by omega)
  obtain ⟨y1, e1⟩ := one 1 (by omega)
  obtain ⟨y2, e2⟩ := one 2 (by omega)
  obtain ⟨y3, e3⟩ := one 3 (by omega)
  rw [e0] at g0
  rw [e1] at g1
  rw [e2] at g2
  rw [e3] at g3
  obtain ⟨t, et, _, wt⟩ := DataW.trod_int Tryd.underlying5 g0
  obtain ⟨c, ec, _, wc⟩ := DataW.trod_int Tryd.underlying5 g1
  obtain ⟨xs4, m4, rfl, _, _, hl4, hel⟩ := DataW.trod_array Tryd.underlying22 g2
  have h0 : DataW.trod enc Tryd.prog W 0 (fun _ => true) held m4 5 [c2] = xs4[0]? := by
    have h := hel 0 (by omega)
    rw [s5] at h
    exact h
  have h1 : DataW.trod enc Tryd.prog W 0 (fun _ => true) held m4 5 [c3] = xs4[1]? := by
    have h := hel 1 (by omega)
    rw [s5] at h
    exact h
  have h2 : DataW.trod enc Tryd.prog W 0 (fun _ => true) held m4 5 [c4] = xs4[2]? := by
    have h := hel 2 (by omega)
    rw [s5] at h
    exact h
  have h3 : DataW.trod enc Tryd.prog W 0 (fun _ => true) held m4 5 [c5] = xs4[3]? := by
    have h := hel 3 (by omega)
    rw [s5] at h
    exact h
  rw [List.getElem?_eq_getElem (by omega)] at h0 h1 h2 h3
  obtain ⟨r0, er0, _, w0⟩ := DataW.trod_int Tryd.underlying5 h0
  obtain ⟨r1, er1, _, w1⟩ := DataW.trod_int Tryd.underlying5 h1
  obtain ⟨r2, er2, _, w2⟩ := DataW.trod_int Tryd.underlying5 h2
  obtain ⟨r3, er3, _, w3⟩ := DataW.trod_int Tryd.underlying5 h3
  obtain ⟨A, n, cap, rfl⟩ : ∃ A n cap, c6 = .slice A n cap := by
    rcases Deep.open_slice Tryd.underlying23 g3 with ⟨e, _⟩ | ⟨a', len', cap', m, n, Dd, Pl, e, _⟩
    · simp only [List.cons.injEq, and_true] at e; exact ⟨_, _, _, e⟩
    · simp only [List.cons.injEq, and_true] at e; exact ⟨_, _, _, e⟩
  simp only [List.cons.injEq, and_true] at et ec er0 er1 er2 er3
  subst et ec er0 er1 er2 er3
  obtain ⟨t, rfl, lt⟩ := byte_of wt
  obtain ⟨c, rfl, lc⟩ := byte_of wc
  obtain ⟨r0, rfl, l0⟩ := byte_of w0
  obtain ⟨r1, rfl, l1⟩ := byte_of w1
  obtain ⟨r2, rfl, l2⟩ := byte_of w2
  obtain ⟨r3, rfl, l3⟩ := byte_of w3
  exact ⟨t, c, r0, r1, r2, r3, A, n, cap, _, _, ⟨lt, lc, l0, l1, l2, l3⟩, rfl, ⟨_, by simpa [Value.cells] using g3⟩⟩
theorem slr_bytes {σ : AHeap} {v : Value} {A : List (Fin 256)} (h : SlR σ 1 (fun z : Fin 256 => encB z.val) v A) : SlR σ 1 encB v (A.map (·.val)) := by
  rcases h with ⟨a, c, rfl, rfl⟩ | ⟨b, o, cap, rfl, h2, h3⟩
  · exact .inl ⟨a, c, rfl, rfl⟩
  · refine .inr ⟨b, o, cap, by rw [List.length_map], h2, fun i x hi => ?_⟩
    rw [List.getElem?_map] at hi
    cases hx : A[i]? with
    | none => rw [hx] at hi; cases hi
    | some z => rw [hx] at hi; cases hi; exact h3 i z hx
theorem byt_fin (A : List (Fin 256)) : Byt (A.map (·.val)) := fun b hb => by
  obtain ⟨z, _, rfl⟩ := List.mem_map.1 hb
  exact z.isLt
theorem dec_u8 {H : Type} {enc : TypeId × Value → H} {w : World} {held : Bool} : ∀ m cs y, DataW.trod enc Tryd.prog w 0 (fun _ => true) held m 5 cs = some y → ∃ z : Fin 256, cs = encB z.val := fun m cs y h => by
  obtain ⟨n, rfl, _, hw⟩ := DataW.trod_int Tryd.underlying5 h
  obtain ⟨k, rfl, hk⟩ := byte_of hw
  exact ⟨⟨k, hk⟩, rfl⟩
theorem orc_none {D : Prop} {P : Program} {gs : List Nat} : OrcS D P gs (fun _ => none) := fun f g h => by cases h
/-- IcmpTells, in the model's words. -/
theorem tells_law {H : Type} {enc : TypeId × Value → H} {l : List (String × DataW Unit)} {W : World} {ps : List MemPlace} (hL : DataW.LaidVars Tryd.prog W l ps) (hm : ("toll/icmp.kinds", Rows.laid_toll_icmp_kinds) ∈ l) {held : Bool} {v : Value} {d : DataW H} {p : List MemPlace} {base' : Nat}
    (ho : Value.okWide Tryd.prog W .any base' 25 v) (h : DataW.Trod enc Tryd.prog W 0 (fun _ => true) held 25 v d p) : Calls Tryd.prog 3 #[v] W fun e W' => e = .returned (.bool true) ∧ Below W.heap.size W W' := by
  obtain ⟨σ0, ρ0, hR0, hG0, hGl, hro0⟩ := kinds_base hL hm
  obtain ⟨t, c, r0, r1, r2, r3, A, n, cap, d', ps', hb, rfl, hT⟩ := msg_in ho h
  obtain ⟨σ, ρ, v, B, hR, hv, hS, hro, hC, hSame, hle⟩ := slice_arg_on (P := Tryd.prog) (α := Fin 256) (enc' := fun z : Fin 256 => encB z.val) (k := 1) ⟨fun _ => rfl, fun x v hv => encBOk.single x.val v hv, by omega⟩ (fun x v hv => by simp [encB] at hv; subst hv; rfl) hR0 hro0 Tryd.underlying23 (by kernel_rfl) dec_u8 hT
  have hS' := slr_bytes hS
  have run := tells3_run (orc := fun _ => none) (n := 1000) ⟨fun _ => rfl⟩ (m0 := ⟨t, c, r0, r1, r2, r3, B.map (·.val)⟩) (v0 := v) (hGl.same hSame) hb (byt_fin B) hS' hC (by omega)
  refine open_true_g (D := True) (by kernel_rfl) orc_none (hG0.mono hle) hR hro (.cons (VR.agg_iff ?_) .nil) run
  exact .cons (.atom rfl) (.cons (.atom rfl) (.cons (.atom rfl) (.cons (.atom rfl) (.cons (.atom rfl) (.cons (.atom rfl) (.cons hv .nil))))))
end Go.Proofs.YtongccpmdndcgaaDoor.Icm
end
