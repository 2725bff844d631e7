/- Texts of this proof, gathered. What each part says stands at its head; conditions: none but those that its theorems name. -/
import Derived.Test.YtongccpmdndcgaaTac
import Derived.Test.YtongccpmdndcgaaE4
/- Addresses: their numbers, their kinds. -/
section
set_option linter.all false
namespace Go.Proofs.Ytongccpmdndcgaa.Lrn
open Go Go.AE Go.Proofs.Ytongccpmdndcgaa.Alm Go.Proofs.Ytongccpmdndcgaa.Tab Go.Sort Go.Proofs
set_option maxRecDepth 100000
set_option maxHeartbeats 1000000
attribute [local irreducible] Go.AE.Tr.put Go.AE.Tr.get
variable {gs : List Nat} {orc : Orc} {n : Nat} {σ : AHeap} {Q : Value × AHeap → Prop}

def mcs (M : List Nat) : List Value := M.map fun b : Nat => .int .u8 (b : Int)
abbrev macV (M : List Nat) : Value := .agg (mcs M).toArray
theorem mcs_len {M : List Nat} : (mcs M).length = M.length := by simp [mcs]
theorem mcs_single {M : List Nat} : ∀ v ∈ mcs M, single v = true := by intro v hv; simp [mcs] at hv; obtain ⟨b, _, rfl⟩ := hv; rfl
theorem mcs_list {M : List Nat} : (mcs M).toArray.toList = mcs M := rfl
theorem mcs_size {M : List Nat} (h : M.length = 6) : (mcs M).toArray.size = 6 := by simp [mcs, h]
theorem mcs_get {M : List Nat} {i b : Nat} (h : M[i]? = some b) : (mcs M).toArray[i]? = some (.int .u8 (b : Int)) := by simp [mcs, h]
theorem bin_mac {x y : Operand} {A B : List Nat} (hA : A.length = 6) (hB : B.length = 6) : bin Try.prog .eql 117 x y (macV A) (macV B) = some (.bool (decide (A = B))) := by
  have e := eqV_arr (P := Try.prog) (t := 117) (k := .u8) (A := A.map fun b : Nat => (b : Int)) (B := B.map fun b : Nat => (b : Int)) Try.underlying117 Try.size_5 Try.isAgg_5 Try.underlying5 (by simpa using hA) (by simpa using hB)
  rw [List.map_map, List.map_map] at e
  have hd : decide ((A.map fun b : Nat => (b : Int)) = B.map fun b : Nat => (b : Int)) = decide (A = B) := by
    apply decide_eq_decide.2
    exact ⟨fun h => (List.map_inj_right fun a b h => by exact Int.ofNat.inj h).1 h, fun h => by rw [h]⟩
  rw [hd] at e
  exact bin_agg (by kernel_rfl) e
def num (M : List Nat) : Nat := M.foldl (fun a b => a * 256 + b) 0
theorem num_lt : ∀ {M : List Nat} (_ : ∀ b ∈ M, b < 256) (a : Nat), M.foldl (fun a b => a * 256 + b) a < (a + 1) * 256 ^ M.length
  | [], _, a => by simp
  | b :: M, h, a => by
    have := num_lt (M := M) (fun c hc => h c (by simp [hc])) (a * 256 + b)
    have hb := h b (by simp)
    refine Nat.lt_of_lt_of_le this ?_
    rw [List.length_cons, Nat.pow_succ, Nat.mul_comm (256 ^ M.length) 256, ← Nat.mul_assoc]
    exact Nat.mul_le_mul_right _ (by omega)
theorem num_take {M : List Nat} {i b : Nat} (h : M[i]? = some b) : num (M.take (i + 1)) = num (M.take i) * 256 + b := by
  unfold num
  rw [List.take_add_one, h]
  simp
theorem number_run (h211 : orc 211 = none) {M : List Nat} (hl : M.length = 6) (hb : ∀ b ∈ M, b < 256) (hn : 6 < n) (hQ : ∀ σ', Same σ σ' [] → Q (.int .u64 (num M : Int), σ')) : W (acall Try.prog gs orc (n + 1) 211 [macV M] σ) Q := by
  obtain ⟨σ1, e1, hS1, v1, hn1⟩ := AE.oneVar σ 117 (mcs M) false
  have l1 : ldCells σ1 σ.next 0 6 = some (mcs M) := by have := v1.ldCells; rwa [mcs_len, hl] at this
  rw [W_start (m := 17) (keep := []) Try.func211 rfl (by kernel_rfl) (by kernel_rfl) (by first | rfl | assumption | exact f.h211) (by rfl)]
  simp (maxSteps := 2000000) only [B0, B1, B2, B3, B4, B5, B6, B7, Gd, extV, Nat.reduceLT, Nat.reduceEqDiff, Nat.reduceBEq, Nat.reduceAdd, Nat.reduceSub, Nat.reduceMul, ↓reduceIte, reduceCtorEq, if_true, if_false, ite_true, ite_false, Int.reduceLT, Int.reduceLE, ptr, Try.ld_117, Value.cells,  mcs_list,  e1,  l1, rs_tmp (show Try.f211.results = #[.tmp 2] from rfl)]
  refine W_inv (fun k fr σ' => σ' = σ1 ∧ ∃ (t : Tr Value) (i : Nat), fr = ⟨17, t⟩ ∧ t.get 3 = some (.int .u64 (num (M.take i) : Int)) ∧ t.get 6 = some (macV M) ∧ t.get 7 = some (.int .i64 (i : Int)) ∧ k + i = 6) 6 (by omega)
    ⟨rfl, _, 0, rfl, by simp [get_put, num], by simp [get_put], by simp [get_put], rfl⟩ ?_
  rintro k fr σ2 ⟨rfl, t, i, rfl, t3, t6, t7, hk⟩
  by_cases hlt : i < 6
  · have hx := List.getElem?_eq_getElem (l := M) (show i < M.length by omega)
    have hbm := List.getElem_mem (l := M) (show i < M.length by omega)
    generalize M[i] = b at hx hbm
    have hb8 := hb b hbm
    have hnt := num_take hx
    have hlt56 : num (M.take i) < 72057594037927936 := by
      have := num_lt (M := M.take i) (fun c hc => hb c (List.mem_of_mem_take hc)) 0
      have h2 : (256 : Nat) ^ (M.take i).length ≤ 256 ^ 5 := Nat.pow_le_pow_right (by omega) (by rw [List.length_take]; omega)
      unfold num
      omega
    have hix : indexVal Try.prog 117 (macV M) (.int .i64 (i : Int)) = some (.int .u8 (b : Int)) := by
      rw [indexVal_arr Try.underlying117 Try.size_5 Try.isAgg_5 hlt]; exact mcs_get hx
    have hlt' : ((i : Int) < 6) = True := eq_true (by omega)
    have hw1 : IntKind.i64.wrap ((i : Int) + 1) = ((i + 1 : Nat) : Int) := wrap64 (by omega) (by omega)
    simp (maxSteps := 2000000) only [B0, B1, B2, B3, B4, B5, B6, B7, Gd, extV, Nat.reduceLT, Nat.reduceEqDiff, Nat.reduceBEq, Nat.reduceAdd, Nat.reduceSub, Nat.reduceMul, ↓reduceIte, reduceCtorEq, if_true, if_false, ite_true, ite_false, Int.reduceLT, Int.reduceLE, ptr, Try.ld_117, t3,  t6,  t7,  hlt',  hix,  shl8 hlt56,  conv_int Try.underlying5 Try.underlying126,  wrapU64 (show b < 18446744073709551616 by omega),  bin_or64 (show num (M.take i) * 256 < 18446744073709551616 by omega) (show b < 18446744073709551616 by omega),  or_byte hb8,  hw1,  KInv_normal, rs_tmp (show Try.f211.results = #[.tmp 2] from rfl)]
    exact ⟨6 - (i + 1), by omega, _, i + 1, rfl, by simp [get_put, hnt], by simp [get_put, t6], by simp [get_put], by omega⟩
  · have hlt' : ((i : Int) < 6) = False := eq_false (by omega)
    have htk : M.take i = M := List.take_of_length_le (by omega)
    rw [htk] at t3
    simp (maxSteps := 2000000) only [B0, B1, B2, B3, B4, B5, B6, B7, Gd, extV, Nat.reduceLT, Nat.reduceEqDiff, Nat.reduceBEq, Nat.reduceAdd, Nat.reduceSub, Nat.reduceMul, ↓reduceIte, reduceCtorEq, if_true, if_false, ite_true, ite_false, Int.reduceLT, Int.reduceLE, ptr, Try.ld_117, t3,  t6,  t7,  hlt', rs_tmp (show Try.f211.results = #[.tmp 2] from rfl)]
    exact hQ _ hS1
def byteAt (x j : Nat) : Nat := x / 2 ^ (40 - 8 * j) % 256
def macU (x i : Nat) : List Nat := (List.range 6).map fun j => if j < i then byteAt x j else 0
def macL (x : Nat) : List Nat := macU x 6
theorem macU_len {x i : Nat} : (macU x i).length = 6 := by simp [macU]
theorem macU_set {x i : Nat} (h : i < 6) : (mcs (macU x i)).set i (.int .u8 (byteAt x i : Int)) = mcs (macU x (i + 1)) := by
  rcases (show i = 0 ∨ i = 1 ∨ i = 2 ∨ i = 3 ∨ i = 4 ∨ i = 5 by omega) with rfl | rfl | rfl | rfl | rfl | rfl <;> rfl
theorem ofm_run (h72 : orc 72 = none) {x : Nat} (hx : x < 18446744073709551616) (hn : 6 < n) (hQ : ∀ σ', Same σ σ' [] → Q (macV (macL x), σ')) : W (acall Try.prog gs orc (n + 1) 72 [.int .u64 (x : Int)] σ) Q := by
  obtain ⟨σ1, e1, hS1, v1, hn1⟩ := AE.oneVar σ 117 (mcs (macU x 0)) false
  obtain ⟨σ2, e2, hS2, v2, hn2⟩ := AE.oneVar σ1 117 (mcs (macU x 0)) false
  have z0 : ([(.int .u8 (0)), (.int .u8 (0)), (.int .u8 (0)), (.int .u8 (0)), (.int .u8 (0)), (.int .u8 (0))] : List Value) = mcs (macU x 0) := rfl
  rw [W_start (m := 18) (keep := []) Try.func72 rfl (by kernel_rfl) (by kernel_rfl) (by first | rfl | assumption | exact f.h72) (by rfl)]
  simp (maxSteps := 2000000) only [B0, B1, B2, B3, B4, B5, B6, B7, Gd, extV, Nat.reduceLT, Nat.reduceEqDiff, Nat.reduceBEq, Nat.reduceAdd, Nat.reduceSub, Nat.reduceMul, ↓reduceIte, reduceCtorEq, if_true, if_false, ite_true, ite_false, Int.reduceLT, Int.reduceLE, ptr, allocV_zero Try.zero_117, Try.ia_117, Try.st_5, Try.ld_117, Try.st_117, z0,  Value.cells,  mcs_list,  e1,  e2, rs_c (show Try.f72.results = #[.cell 2 117] from rfl)]
  refine W_inv (fun k fr σ' => ∃ (t : Tr Value) (i : Nat), fr = ⟨18, t⟩ ∧ t.get 0 = some (.int .u64 (x : Int)) ∧ t.get 2 = some (pt σ.next) ∧ t.get 3 = some (pt σ1.next) ∧ t.get 5 = some (.int .i64 (i : Int)) ∧ k + i = 6 ∧ VarAt σ' σ1.next (mcs (macU x i)) ∧ Same σ2 σ' [σ1.next]) 6 (by omega)
    ⟨_, 0, rfl, by simp [get_put, get_args], by simp [get_put], by simp [get_put], by simp [get_put], rfl, v2, .refl _ _⟩ ?_
  rintro k fr σ3 ⟨t, i, rfl, t0, t2, t3, t5, hk, v3, hS3⟩
  by_cases hlt : i < 6
  · have hlt' : ((i : Int) < 6) = True := eq_true (by omega)
    have hw1 : IntKind.i64.wrap ((i : Int) + 1) = ((i + 1 : Nat) : Int) := wrap64 (by omega) (by omega)
    have hw8 : IntKind.i64.wrap (8 * (i : Int)) = ((8 * i : Nat) : Int) := by rw [wrap64 (by omega) (by omega)]; omega
    have hw40 : IntKind.i64.wrap (40 - ((8 * i : Nat) : Int)) = ((40 - 8 * i : Nat) : Int) := by rw [wrap64 (by omega) (by omega)]; omega
    obtain ⟨σ4, t4, v4, hS4, hn4⟩ := v3.storeAt (i := i) (by rw [mcs_len, macU_len]; exact hlt) (v := .int .u8 (byteAt x i : Int)) rfl
    rw [macU_set hlt] at v4
    unfold byteAt at t4
    simp (maxSteps := 2000000) only [B0, B1, B2, B3, B4, B5, B6, B7, Gd, extV, Nat.reduceLT, Nat.reduceEqDiff, Nat.reduceBEq, Nat.reduceAdd, Nat.reduceSub, Nat.reduceMul, ↓reduceIte, reduceCtorEq, if_true, if_false, ite_true, ite_false, Int.reduceLT, Int.reduceLE, ptr, allocV_zero Try.zero_117, Try.ia_117, Try.st_5, Try.ld_117, Try.st_117, t0,  t2,  t3,  t5,  hlt',  hlt,  hw1,  hw8,  hw40,  shr_nat (k := .u64) (show 40 - 8 * i < 64 by omega) (by decide),  conv_int Try.underlying126 Try.underlying5,  wrapU8,  Nat.mul_one,  Value.cells,  List.size_toArray,  t4,  KInv_normal, rs_c (show Try.f72.results = #[.cell 2 117] from rfl)]
    exact ⟨6 - (i + 1), by omega, _, i + 1, rfl, by simp [get_put, t0], by simp [get_put, t2], by simp [get_put, t3], by simp [get_put], by omega, v4, hS3.trans hS4 (by simp)⟩
  · have hlt' : ((i : Int) < 6) = False := eq_false (by omega)
    obtain rfl : i = 6 := by omega
    have l3 : ldCells σ3 σ1.next 0 6 = some (mcs (macL x)) := by have := v3.ldCells; rwa [mcs_len, macU_len] at this
    have v1' : VarAt σ3 σ.next (mcs (macU x 0)) := (v1.same hS2 nofun).same hS3 (by simp; omega)
    obtain ⟨σ5, t5', v5, hS5, hn5⟩ := v1'.store (vs' := mcs (macL x)) (by rw [mcs_len, mcs_len, macU_len]; exact macU_len) mcs_single
    have l5 : ldCells σ5 σ.next 0 6 = some (mcs (macL x)) := by have := v5.ldCells; rwa [mcs_len, show (macL x).length = 6 from macU_len] at this
    simp (maxSteps := 2000000) only [B0, B1, B2, B3, B4, B5, B6, B7, Gd, extV, Nat.reduceLT, Nat.reduceEqDiff, Nat.reduceBEq, Nat.reduceAdd, Nat.reduceSub, Nat.reduceMul, ↓reduceIte, reduceCtorEq, if_true, if_false, ite_true, ite_false, Int.reduceLT, Int.reduceLE, ptr, allocV_zero Try.zero_117, Try.ia_117, Try.st_5, Try.ld_117, Try.st_117, t0,  t2,  t3,  t5,  hlt',  l3,  Value.cells,  mcs_list,  mcs_size (show (macL x).length = 6 from macU_len),  t5',  l5, rs_c (show Try.f72.results = #[.cell 2 117] from rfl)]
    exact hQ σ5 ((((hS1.app hS2).app hS3).app hS5).old fun b hb => by simp at hb; rcases hb with hb | hb <;> exact .inr (by omega))
end Go.Proofs.Ytongccpmdndcgaa.Lrn
end
/- Addresses: masked, their kinds; domains. -/
section
set_option linter.all false
namespace Go.Proofs.Ytongccpmdndcgaa.Lrn
open Go Go.AE Go.Proofs.Ytongccpmdndcgaa.Alm Go.Proofs.Ytongccpmdndcgaa.Tab Go.Sort Go.Proofs
set_option maxRecDepth 100000
set_option maxHeartbeats 1000000
attribute [local irreducible] Go.AE.Tr.put Go.AE.Tr.get
variable {gs : List Nat} {orc : Orc} {n : Nat} {σ : AHeap} {Q : Value × AHeap → Prop}

structure FreeM (orc : Orc) : Prop where
  h72 : orc 72 = none
  h126 : orc 126 = none
  h165 : orc 165 = none
  h166 : orc 166 = none
  h191 : orc 191 = none
  h192 : orc 192 = none
  h193 : orc 193 = none
  h211 : orc 211 = none
theorem same_macs (k : Nat) : ∀ M : List Nat, ((mcs M).zip (mcs M)).all (fun (p, q) => sameV (k + 1) p q) = true
  | [] => rfl
  | b :: M => by
    have := same_macs k M
    simp only [mcs, List.map_cons, List.zip_cons_cons, List.all_cons, Bool.and_eq_true] at this ⊢
    exact ⟨by simp [sameV], this⟩
theorem same_mac {M : List Nat} : sameV 6 (macV M) (macV M) = true := by
  show ((mcs M).toArray.size.beq (mcs M).toArray.size && ((mcs M).zip (mcs M)).all fun (p, q) => sameV 5 p q) = true
  rw [same_macs 4, Nat.beq_refl]; rfl
/-- An address's bytes. -/
structure Mac (M : List Nat) : Prop where
  len : M.length = 6
  byte : ∀ b ∈ M, b < 256
theorem macL_mac (x : Nat) : Mac (macL x) := ⟨macU_len, fun b hb => by
  simp [macL, macU] at hb
  obtain ⟨j, hj, rfl⟩ := hb
  rw [if_pos hj]
  unfold byteAt
  omega⟩
theorem Mac.six {M : List Nat} (h : Mac M) : ∃ b0 b1 b2 b3 b4 b5, M = [b0, b1, b2, b3, b4, b5] ∧ b0 < 256 ∧ b1 < 256 ∧ b2 < 256 ∧ b3 < 256 ∧ b4 < 256 ∧ b5 < 256 := by
  obtain ⟨hl, hb⟩ := h
  match M, hl with
  | [b0, b1, b2, b3, b4, b5], _ => exact ⟨b0, b1, b2, b3, b4, b5, rfl, hb _ (by simp), hb _ (by simp), hb _ (by simp), hb _ (by simp), hb _ (by simp), hb _ (by simp)⟩
theorem Mac.num {M : List Nat} (h : Mac M) : num M < 281474976710656 := by
  have := num_lt h.byte 0
  rw [h.len] at this
  unfold Lrn.num
  omega
theorem masked_run (f : FreeM orc) {A B : List Nat} (hA : Mac A) (hB : Mac B) (hn : 6 < n) (hQ : ∀ σ', Same σ σ' [] → Q (macV (macL (num A &&& num B)), σ')) : W (acall Try.prog gs orc (n + 2) 191 [macV A, macV B] σ) Q := by
  obtain ⟨σ1, e1, hS1, v1, hn1⟩ := AE.oneVar σ 117 (mcs A) false
  obtain ⟨σ2, e2, hS2, v2, hn2⟩ := AE.oneVar σ1 117 (mcs B) false
  obtain ⟨σ3, e3, hS3, v3, hn3⟩ := AE.oneVar σ2 117 (mcs (macU 0 0)) false
  have z0 : ([(.int .u8 (0)), (.int .u8 (0)), (.int .u8 (0)), (.int .u8 (0)), (.int .u8 (0)), (.int .u8 (0))] : List Value) = mcs (macU 0 0) := rfl
  have ld6 : ∀ {τ : AHeap} {b : Nat} {M : List Nat}, M.length = 6 → VarAt τ b (mcs M) → ldCells τ b 0 6 = some (mcs M) := fun hl v => by have := v.ldCells; rwa [mcs_len, hl] at this
  have a3 := ld6 hA.len ((v1.same hS2 nofun).same hS3 nofun)
  have b3 := ld6 hB.len (v2.same hS3 nofun)
  rw [W_start (m := 11) (keep := [1]) Try.func191 rfl (by kernel_rfl) (by kernel_rfl) (by first | rfl | assumption | exact f.h191) (by rfl)]
  simp (maxSteps := 2000000) only [B0, B1, B2, B3, B4, B5, B6, B7, Gd, extV, Nat.reduceLT, Nat.reduceEqDiff, Nat.reduceBEq, Nat.reduceAdd, Nat.reduceSub, Nat.reduceMul, ↓reduceIte, reduceCtorEq, if_true, if_false, ite_true, ite_false, Int.reduceLT, Int.reduceLE, ptr, allocV_zero Try.zero_117, Try.ld_117, callV_func Try.enters_211, callV_func Try.enters_72, Try.st_117, z0,  Value.cells,  mcs_list,  e1,  e2,  e3, rs_c (show Try.f191.results = #[.cell 4 117] from rfl)]
  refine Eq.mpr (W_retold (ps := [(1, 2)]) (by kernel_rfl) (by kernel_rfl) (by simp)) ?_
  simp (maxSteps := 2000000) only [B0, B1, B2, B3, B4, B5, B6, B7, Gd, extV, Nat.reduceLT, Nat.reduceEqDiff, Nat.reduceBEq, Nat.reduceAdd, Nat.reduceSub, Nat.reduceMul, ↓reduceIte, reduceCtorEq, if_true, if_false, ite_true, ite_false, Int.reduceLT, Int.reduceLE, ptr, allocV_zero Try.zero_117, Try.ld_117, callV_func Try.enters_211, callV_func Try.enters_72, Try.st_117, a3,  b3, rs_c (show Try.f191.results = #[.cell 4 117] from rfl)]
  refine number_run f.h211 hA.len hA.byte (by omega) fun σ4 hS4 => ?_
  have b4 := ld6 hB.len ((v2.same hS3 nofun).same hS4 nofun)
  simp (maxSteps := 2000000) only [B0, B1, B2, B3, B4, B5, B6, B7, Gd, extV, Nat.reduceLT, Nat.reduceEqDiff, Nat.reduceBEq, Nat.reduceAdd, Nat.reduceSub, Nat.reduceMul, ↓reduceIte, reduceCtorEq, if_true, if_false, ite_true, ite_false, Int.reduceLT, Int.reduceLE, ptr, allocV_zero Try.zero_117, Try.ld_117, callV_func Try.enters_211, callV_func Try.enters_72, Try.st_117, a3,  b3,  b4, rs_c (show Try.f191.results = #[.cell 4 117] from rfl)]
  refine number_run f.h211 hB.len hB.byte (by omega) fun σ5 hS5 => ?_
  have hA' := hA.num
  have hB' := hB.num
  simp (maxSteps := 2000000) only [B0, B1, B2, B3, B4, B5, B6, B7, Gd, extV, Nat.reduceLT, Nat.reduceEqDiff, Nat.reduceBEq, Nat.reduceAdd, Nat.reduceSub, Nat.reduceMul, ↓reduceIte, reduceCtorEq, if_true, if_false, ite_true, ite_false, Int.reduceLT, Int.reduceLE, ptr, allocV_zero Try.zero_117, Try.ld_117, callV_func Try.enters_211, callV_func Try.enters_72, Try.st_117, a3,  b3,  b4,  bin_and64 (show num A < 18446744073709551616 by omega) (show num B < 18446744073709551616 by omega), rs_c (show Try.f191.results = #[.cell 4 117] from rfl)]
  refine ofm_run f.h72 (Nat.lt_of_le_of_lt Nat.and_le_left (by omega)) (by omega) fun σ6 hS6 => ?_
  obtain ⟨σ7, t7, v7, hS7, hn7⟩ := (((v3.same hS4 nofun).same hS5 nofun).same hS6 nofun).store (vs' := mcs (macL (num A &&& num B))) (by rw [mcs_len, mcs_len, macU_len]; exact macU_len) mcs_single
  have l7 := ld6 (M := macL (num A &&& num B)) macU_len v7
  simp (maxSteps := 2000000) only [B0, B1, B2, B3, B4, B5, B6, B7, Gd, extV, Nat.reduceLT, Nat.reduceEqDiff, Nat.reduceBEq, Nat.reduceAdd, Nat.reduceSub, Nat.reduceMul, ↓reduceIte, reduceCtorEq, if_true, if_false, ite_true, ite_false, Int.reduceLT, Int.reduceLE, ptr, allocV_zero Try.zero_117, Try.ld_117, callV_func Try.enters_211, callV_func Try.enters_72, Try.st_117, a3,  b3,  b4,  Value.cells,  mcs_list,  mcs_size (show (macL (num A &&& num B)).length = 6 from macU_len),  t7,  l7,  same_mac, rs_c (show Try.f191.results = #[.cell 4 117] from rfl)]
  exact hQ σ7 (((((((hS1.app hS2).app hS3).app hS4).app hS5).app hS6).app hS7).old fun b hb => by simp at hb; exact .inr (by omega))
theorem bits_run (f : FreeM orc) (hn : 6 < n) (hQ : ∀ σ', Same σ σ' [] → Q (macV (macL 281474976710640), σ')) : W (acall Try.prog gs orc (n + 2) 192 [.int .i64 44] σ) Q := by
  obtain ⟨σ1, e1, hS1, v1, hn1⟩ := AE.oneVar σ 117 (mcs (macU 0 0)) false
  have z0 : ([(.int .u8 (0)), (.int .u8 (0)), (.int .u8 (0)), (.int .u8 (0)), (.int .u8 (0)), (.int .u8 (0))] : List Value) = mcs (macU 0 0) := rfl
  have b1 : ∀ {x y}, bin Try.prog .shr 126 x y (.int .u64 281474976710655) (.int .i64 44) = some (.int .u64 15) := by intro x y; kernel_rfl
  have b2 : ∀ {x y}, bin Try.prog .andNot 126 x y (.int .u64 281474976710655) (.int .u64 15) = some (.int .u64 281474976710640) := by intro x y; kernel_rfl
  rw [W_start (m := 10) (keep := []) Try.func192 rfl (by kernel_rfl) (by kernel_rfl) (by first | rfl | assumption | exact f.h192) (by rfl)]
  simp (maxSteps := 2000000) only [B0, B1, B2, B3, B4, B5, B6, B7, Gd, extV, Nat.reduceLT, Nat.reduceEqDiff, Nat.reduceBEq, Nat.reduceAdd, Nat.reduceSub, Nat.reduceMul, ↓reduceIte, reduceCtorEq, if_true, if_false, ite_true, ite_false, Int.reduceLT, Int.reduceLE, ptr, allocV_zero Try.zero_117, callV_func Try.enters_72, Try.st_117, Try.ld_117, z0,  Value.cells,  mcs_list,  e1,  min_int,  max_int,  b1,  b2, rs_c (show Try.f192.results = #[.cell 2 117] from rfl)]
  refine ofm_run (x := 281474976710640) f.h72 (by omega) (by omega) fun σ2 hS2 => ?_
  obtain ⟨σ3, t3, v3, hS3, hn3⟩ := (v1.same hS2 nofun).store (vs' := mcs (macL 281474976710640)) (by rw [mcs_len, mcs_len, macU_len]; exact macU_len) mcs_single
  have l3 : ldCells σ3 σ.next 0 6 = some (mcs (macL 281474976710640)) := by have := v3.ldCells; rwa [mcs_len, show (macL 281474976710640).length = 6 from macU_len] at this
  simp (maxSteps := 2000000) only [B0, B1, B2, B3, B4, B5, B6, B7, Gd, extV, Nat.reduceLT, Nat.reduceEqDiff, Nat.reduceBEq, Nat.reduceAdd, Nat.reduceSub, Nat.reduceMul, ↓reduceIte, reduceCtorEq, if_true, if_false, ite_true, ite_false, Int.reduceLT, Int.reduceLE, ptr, allocV_zero Try.zero_117, callV_func Try.enters_72, Try.st_117, Try.ld_117, Value.cells,  mcs_list,  mcs_size (show (macL 281474976710640).length = 6 from macU_len),  t3,  l3, rs_c (show Try.f192.results = #[.cell 2 117] from rfl)]
  exact hQ σ3 (((hS1.app hS2).app hS3).old fun b hb => by simp at hb; exact .inr (by omega))
theorem group_run (f : FreeM orc) {M : List Nat} {b0 : Nat} (h0 : M[0]? = some b0) (hb : b0 < 256) (hQ : ∀ σ', Same σ σ' [] → Q (.bool (decide (b0 % 2 = 1)), σ')) : W (acall Try.prog gs orc (n + 1) 193 [macV M] σ) Q := by
  obtain ⟨σ1, e1, hS1, v1, hn1⟩ := AE.oneVar σ 117 (mcs M) false
  have l1 : ld σ1 σ.next 0 = some (.int .u8 (b0 : Int)) := v1.ld (by simp [mcs, h0])
  have hd : decide (((b0 % 2 : Nat) : Int) = 1) = decide (b0 % 2 = 1) := decide_eq_decide.2 (by omega)
  rw [W_start (m := 7) (keep := []) Try.func193 rfl (by kernel_rfl) (by kernel_rfl) (by first | rfl | assumption | exact f.h193) (by rfl)]
  simp (maxSteps := 2000000) only [B0, B1, B2, B3, B4, B5, B6, B7, Gd, extV, Nat.reduceLT, Nat.reduceEqDiff, Nat.reduceBEq, Nat.reduceAdd, Nat.reduceSub, Nat.reduceMul, ↓reduceIte, reduceCtorEq, if_true, if_false, ite_true, ite_false, Int.reduceLT, Int.reduceLE, ptr, Try.ia_117, Try.ld_5, Value.cells,  mcs_list,  e1,  Nat.zero_mul,  l1,  and1_8 hb,  hd, rs_tmp (show Try.f193.results = #[.tmp 2] from rfl)]
  exact hQ σ1 hS1
theorem macL_head (x : Nat) : (macL x)[0]? = some (x / 1099511627776 % 256) := rfl
theorem num_head {M : List Nat} (h : Mac M) {b0 : Nat} (h0 : M[0]? = some b0) : num M / 1099511627776 = b0 := by
  obtain ⟨c0, c1, c2, c3, c4, c5, rfl, _⟩ := h.six
  simp at h0
  subst h0
  simp only [num, List.foldl]
  omega
theorem head_mask {M : List Nat} (h : Mac M) {b0 : Nat} (h0 : M[0]? = some b0) (hb : b0 < 256) : (macL (num M &&& 281474976710640))[0]? = some b0 := by
  rw [macL_head]
  have e : (num M &&& 281474976710640) / 1099511627776 = b0 &&& 255 := by
    have := Nat.shiftRight_and_distrib (a := num M) (b := 281474976710640) (i := 40)
    rw [Nat.shiftRight_eq_div_pow, Nat.shiftRight_eq_div_pow, Nat.shiftRight_eq_div_pow] at this
    rw [show (2 : Nat) ^ 40 = 1099511627776 by decide, num_head h h0] at this
    exact this
  have e2 : b0 &&& 255 = b0 % 256 := Nat.and_two_pow_sub_one_eq_mod b0 8
  rw [e, e2]
  simp
  omega
/-- A plain station's address. -/
theorem kind_run (f : FreeM orc) {M : List Nat} (h : Mac M) {b0 : Nat} (h0 : M[0]? = some b0) (he : b0 % 2 = 0) (hz : M ≠ [0, 0, 0, 0, 0, 0]) (hn : 6 < n) (hQ : ∀ σ', Same σ σ' [] → Q (.int .i64 5, σ')) : W (acall Try.prog gs orc (n + 3) 166 [macV M] σ) Q := by
  have hb : b0 < 256 := h.byte _ (List.mem_of_getElem? h0)
  obtain ⟨σ1, e1, hS1, v1, hn1⟩ := AE.oneVar σ 117 (mcs M) false
  have ld6 : ∀ {τ : AHeap}, VarAt τ σ.next (mcs M) → ldCells τ σ.next 0 6 = some (mcs M) := fun v => by have := v.ldCells; rwa [mcs_len, h.len] at this
  have l1 := ld6 v1
  have z1 : build' Try.prog 117 [] = some (macV [0, 0, 0, 0, 0, 0]) := by kernel_rfl
  have z2 : build' Try.prog 117 [(0, .int .u8 1), (1, .int .u8 128), (2, .int .u8 194)] = some (macV [1, 128, 194, 0, 0, 0]) := by kernel_rfl
  have hz' : (M = [0, 0, 0, 0, 0, 0]) = False := eq_false hz
  have hf' : (M = macL 281474976710655) = False := eq_false fun e => by
    rw [e, macL_head] at h0
    simp at h0
    omega
  have hg' : (macL (num M &&& num (macL 281474976710640)) = [1, 128, 194, 0, 0, 0]) = False := eq_false fun e => by
    have hc : num (macL 281474976710640) = 281474976710640 := by decide
    rw [hc] at e
    have := head_mask h h0 hb
    rw [e] at this
    simp at this
    omega
  have h1' : decide (b0 % 2 = 1) = false := decide_eq_false (by omega)
  rw [W_start (m := 20) (keep := [3, 5]) Try.func166 rfl (by kernel_rfl) (by kernel_rfl) (by first | rfl | assumption | exact f.h166) (by rfl)]
  simp (maxSteps := 2000000) only [B0, B1, B2, B3, B4, B5, B6, B7, Gd, extV, Nat.reduceLT, Nat.reduceEqDiff, Nat.reduceBEq, Nat.reduceAdd, Nat.reduceSub, Nat.reduceMul, ↓reduceIte, reduceCtorEq, if_true, if_false, ite_true, ite_false, Int.reduceLT, Int.reduceLE, ptr, Try.ld_117, callV_func Try.enters_72, callV_func Try.enters_192, callV_func Try.enters_191, callV_func Try.enters_193, Value.cells,  mcs_list,  e1,  l1,  z1,  bin_mac h.len (show [0,  0,  0,  0,  0,  0].length = 6 from rfl),  hz', rs_tmp (show Try.f166.results = #[.tmp 2] from rfl)]
  refine Eq.mpr (W_retold (ps := [(1, 0)]) (by kernel_rfl) (by kernel_rfl) (by simp)) ?_
  simp (maxSteps := 2000000) only [B0, B1, B2, B3, B4, B5, B6, B7, Gd, extV, Nat.reduceLT, Nat.reduceEqDiff, Nat.reduceBEq, Nat.reduceAdd, Nat.reduceSub, Nat.reduceMul, ↓reduceIte, reduceCtorEq, if_true, if_false, ite_true, ite_false, Int.reduceLT, Int.reduceLE, ptr, Try.ld_117, callV_func Try.enters_72, callV_func Try.enters_192, callV_func Try.enters_191, callV_func Try.enters_193, l1, rs_tmp (show Try.f166.results = #[.tmp 2] from rfl)]
  refine ofm_run (x := 281474976710655) f.h72 (by omega) (by omega) fun σ2 hS2 => ?_
  have v2 := v1.same hS2 nofun
  have l2 := ld6 v2
  simp (maxSteps := 2000000) only [B0, B1, B2, B3, B4, B5, B6, B7, Gd, extV, Nat.reduceLT, Nat.reduceEqDiff, Nat.reduceBEq, Nat.reduceAdd, Nat.reduceSub, Nat.reduceMul, ↓reduceIte, reduceCtorEq, if_true, if_false, ite_true, ite_false, Int.reduceLT, Int.reduceLE, ptr, Try.ld_117, callV_func Try.enters_72, callV_func Try.enters_192, callV_func Try.enters_191, callV_func Try.enters_193, bin_mac h.len (show (macL 281474976710655).length = 6 from macU_len),  hf',  l1,  l2,  same_mac, rs_tmp (show Try.f166.results = #[.tmp 2] from rfl)]
  refine Eq.mpr (W_retold (ps := [(1, 0)]) (by kernel_rfl) (by kernel_rfl) (by simp)) ?_
  simp (maxSteps := 2000000) only [B0, B1, B2, B3, B4, B5, B6, B7, Gd, extV, Nat.reduceLT, Nat.reduceEqDiff, Nat.reduceBEq, Nat.reduceAdd, Nat.reduceSub, Nat.reduceMul, ↓reduceIte, reduceCtorEq, if_true, if_false, ite_true, ite_false, Int.reduceLT, Int.reduceLE, ptr, Try.ld_117, callV_func Try.enters_72, callV_func Try.enters_192, callV_func Try.enters_191, callV_func Try.enters_193, l2, rs_tmp (show Try.f166.results = #[.tmp 2] from rfl)]
  refine bits_run f (by omega) fun σ3 hS3 => ?_
  have l3 := ld6 (v2.same hS3 nofun)
  simp (maxSteps := 2000000) only [B0, B1, B2, B3, B4, B5, B6, B7, Gd, extV, Nat.reduceLT, Nat.reduceEqDiff, Nat.reduceBEq, Nat.reduceAdd, Nat.reduceSub, Nat.reduceMul, ↓reduceIte, reduceCtorEq, if_true, if_false, ite_true, ite_false, Int.reduceLT, Int.reduceLE, ptr, Try.ld_117, callV_func Try.enters_72, callV_func Try.enters_192, callV_func Try.enters_191, callV_func Try.enters_193, l2,  l3, rs_tmp (show Try.f166.results = #[.tmp 2] from rfl)]
  refine masked_run f h (macL_mac _) (by omega) fun σ4 hS4 => ?_
  have l4 := ld6 ((v2.same hS3 nofun).same hS4 nofun)
  simp (maxSteps := 2000000) only [B0, B1, B2, B3, B4, B5, B6, B7, Gd, extV, Nat.reduceLT, Nat.reduceEqDiff, Nat.reduceBEq, Nat.reduceAdd, Nat.reduceSub, Nat.reduceMul, ↓reduceIte, reduceCtorEq, if_true, if_false, ite_true, ite_false, Int.reduceLT, Int.reduceLE, ptr, Try.ld_117, callV_func Try.enters_72, callV_func Try.enters_192, callV_func Try.enters_191, callV_func Try.enters_193, z2,  bin_mac (show (macL (num M &&& num (macL 281474976710640))).length = 6 from macU_len) (show [1,  128,  194,  0,  0,  0].length = 6 from rfl),  hg',  l2,  l3,  l4,  same_mac, rs_tmp (show Try.f166.results = #[.tmp 2] from rfl)]
  refine group_run f h0 hb fun σ5 hS5 => ?_
  simp (maxSteps := 2000000) only [B0, B1, B2, B3, B4, B5, B6, B7, Gd, extV, Nat.reduceLT, Nat.reduceEqDiff, Nat.reduceBEq, Nat.reduceAdd, Nat.reduceSub, Nat.reduceMul, ↓reduceIte, reduceCtorEq, if_true, if_false, ite_true, ite_false, Int.reduceLT, Int.reduceLE, ptr, Try.ld_117, callV_func Try.enters_72, callV_func Try.enters_192, callV_func Try.enters_191, callV_func Try.enters_193, h1', rs_tmp (show Try.f166.results = #[.tmp 2] from rfl)]
  exact hQ σ5 ((((hS1.trans hS2 nofun).trans hS3 nofun).trans hS4 nofun).trans hS5 nofun)
def okDom (d : Int) : Prop := 1 ≤ d ∧ d ≤ 4094 ∨ 4097 ≤ d ∧ d ≤ 8190
theorem domain_run (f : FreeM orc) {d : Int} (h : okDom d) : W (acall Try.prog gs orc (n + 1) 165 [.int .i64 d] σ) Q = Q (.bool true, σ) := by
  rw [W_start (m := 15) (keep := []) Try.func165 rfl (by kernel_rfl) (by kernel_rfl) (by first | rfl | assumption | exact f.h165) (by rfl)]
  rcases h with ⟨h1, h2⟩ | ⟨h1, h2⟩
  · have c1 : ((4096 : Int) ≤ d) = False := eq_false (by omega)
    have c2 : ((1 : Int) ≤ d) = True := eq_true (by omega)
    have c3 : (d ≤ 4094) = True := eq_true (by omega)
    simp (maxSteps := 2000000) only [B0, B1, B2, B3, B4, B5, B6, B7, Gd, extV, Nat.reduceLT, Nat.reduceEqDiff, Nat.reduceBEq, Nat.reduceAdd, Nat.reduceSub, Nat.reduceMul, ↓reduceIte, reduceCtorEq, if_true, if_false, ite_true, ite_false, Int.reduceLT, Int.reduceLE, ptr, c1,  c2,  c3, rs_tmp (show Try.f165.results = #[.tmp 2] from rfl)]
  · have c1 : ((4096 : Int) ≤ d) = True := eq_true (by omega)
    have hw : IntKind.i64.wrap (d - 4096) = d - 4096 := wrap64 (by omega) (by omega)
    have c2 : ((1 : Int) ≤ d - 4096) = True := eq_true (by omega)
    have c3 : (d - 4096 ≤ 4094) = True := eq_true (by omega)
    simp (maxSteps := 2000000) only [B0, B1, B2, B3, B4, B5, B6, B7, Gd, extV, Nat.reduceLT, Nat.reduceEqDiff, Nat.reduceBEq, Nat.reduceAdd, Nat.reduceSub, Nat.reduceMul, ↓reduceIte, reduceCtorEq, if_true, if_false, ite_true, ite_false, Int.reduceLT, Int.reduceLE, ptr, c1,  hw,  c2,  c3, rs_tmp (show Try.f165.results = #[.tmp 2] from rfl)]
theorem may_run (f : FreeM orc) {t : Int} (h1 : 0 ≤ t) (h2 : t ≤ 1099511627776) : W (acall Try.prog gs orc (n + 1) 126 [.int .i64 t] σ) Q = Q (.bool true, σ) := by
  have c1 := eq_true h1
  have c2 := eq_true h2
  rw [W_start (m := 9) (keep := []) Try.func126 rfl (by kernel_rfl) (by kernel_rfl) (by first | rfl | assumption | exact f.h126) (by rfl)]
  simp (maxSteps := 2000000) only [B0, B1, B2, B3, B4, B5, B6, B7, Gd, extV, Nat.reduceLT, Nat.reduceEqDiff, Nat.reduceBEq, Nat.reduceAdd, Nat.reduceSub, Nat.reduceMul, ↓reduceIte, reduceCtorEq, if_true, if_false, ite_true, ite_false, Int.reduceLT, Int.reduceLE, ptr, c1,  c2, rs_tmp (show Try.f126.results = #[.tmp 2] from rfl)]
end Go.Proofs.Ytongccpmdndcgaa.Lrn
end
/- Keys and stations of entries. -/
section
set_option linter.all false
namespace Go.Proofs.Ytongccpmdndcgaa.Lrn
open Go Go.AE Go.Proofs.Ytongccpmdndcgaa.Alm Go.Proofs.Ytongccpmdndcgaa.Tab Go.Sort Go.Proofs
set_option maxRecDepth 100000
set_option maxHeartbeats 1000000
attribute [local irreducible] Go.AE.Tr.put Go.AE.Tr.get
variable {gs : List Nat} {orc : Orc} {n : Nat} {σ : AHeap} {Q : Value × AHeap → Prop}

structure FreeL (orc : Orc) : Prop extends FreeU orc, FreeM orc where
  h64 : orc 64 = none
  h65 : orc 65 = none
  h66 : orc 66 = none
  h67 : orc 67 = none
  h69 : orc 69 = none
  h73 : orc 73 = none
  h74 : orc 74 = none
  h75 : orc 75 = none
  h76 : orc 76 = none
  h78 : orc 78 = none
  h127 : orc 127 = none
  h128 : orc 128 = none
  h129 : orc 129 = none
  h130 : orc 130 = none
  h131 : orc 131 = none
  h132 : orc 132 = none
/-- A station's key. -/
def keyB (d : Nat) (M : List Nat) : ByteArray := ⟨(([d / 256, d % 256] ++ M).map UInt8.ofNat).toArray⟩
theorem keyB_size {d : Nat} {M : List Nat} (h : M.length = 6) : (keyB d M).size = 8 := by
  show ((([d / 256, d % 256] ++ M).map UInt8.ofNat).toArray).size = 8
  simp [h]
theorem keyB_at {d : Nat} {M : List Nat} {i b : Nat} (h : ([d / 256, d % 256] ++ M)[i]? = some b) (hb : b < 256) : kb (keyB d M) i = b := by
  unfold kb keyB
  simp only [List.getD, List.getElem?_map, h, Option.map_some, Option.getD_some]
  simp
  omega
/-- The address of a key. -/
def kM (k : ByteArray) : List Nat := [kb k 2, kb k 3, kb k 4, kb k 5, kb k 6, kb k 7]
theorem keyB_M {d : Nat} {M : List Nat} (h : Mac M) : kM (keyB d M) = M := by
  obtain ⟨b0, b1, b2, b3, b4, b5, rfl, h0, h1, h2, h3, h4, h5⟩ := h.six
  unfold kM
  rw [keyB_at (i := 2) rfl h0, keyB_at (i := 3) rfl h1, keyB_at (i := 4) rfl h2, keyB_at (i := 5) rfl h3, keyB_at (i := 6) rfl h4, keyB_at (i := 7) rfl h5]
def kD (k : ByteArray) : Nat := kb k 0 * 256 + kb k 1
theorem keyB_D {d : Nat} {M : List Nat} (h : d < 65536) : kD (keyB d M) = d := by
  unfold kD
  rw [keyB_at (i := 0) (b := d / 256) rfl (by omega), keyB_at (i := 1) (b := d % 256) rfl (by omega)]
  omega
theorem key_run (f : FreeL orc) {d : Nat} (hd : d < 65536) {M : List Nat} (h : Mac M) (hQ : ∀ σ', Same σ σ' [] → Q (.string (keyB d M), σ')) : W (acall Try.prog gs orc (n + 1) 130 [.int .i64 (d : Int), macV M] σ) Q := by
  obtain ⟨σ1, e1, hS1, v1, hn1⟩ := AE.oneVar σ 117 (mcs M) false
  have e2 := newCells_eq σ1 249 [.int .u8 0, .int .u8 0] false
  have b0 : ∀ {a b : Int}, build' Try.prog 249 [(0, .int .u8 a), (1, .int .u8 b)] = some (.agg #[.int .u8 a, .int .u8 b]) := by intro a b; kernel_rfl
  obtain ⟨σ2, hσ2⟩ : ∃ σ2, (newCells σ1 249 [.int .u8 0, .int .u8 0]).2 = σ2 := ⟨_, rfl⟩
  have g2 : σ2.get σ1.next = some (.cells 2 (Tr.ofList [.int .u8 0, .int .u8 0] 0 .leaf) 249 false false) := by rw [← hσ2, get_newCells, if_pos rfl]; rfl
  have hS2 : Same σ1 σ2 [] := by rw [← hσ2]; exact .newCells _ _ _ _
  have hn2 : σ2.next = σ1.next + 1 := by rw [← hσ2]; rfl
  obtain ⟨σ3, c3, t3, g3, hc3, hS3, hn3⟩ := store_cells g2 (off := 0) (vs := [.int .u8 ((d / 256 % 256 : Nat) : Int), .int .u8 ((d % 256 : Nat) : Int)]) (by intro v hv; simp at hv; rcases hv with rfl | rfl <;> rfl) (fun j hj => by
    simp at hj
    rw [Tr.get_of]
    rcases (show j = 0 ∨ j = 1 by omega) with rfl | rfl <;> rfl)
  have v3 : VarAt σ3 σ1.next [.int .u8 ((d / 256 % 256 : Nat) : Int), .int .u8 ((d % 256 : Nat) : Int)] := ⟨by omega, 2, c3, 249, false, g3, fun o v ho => by
    have := (List.getElem?_eq_some_iff.1 ho).1
    rw [hc3, if_pos (by simp at this ⊢; omega), Nat.sub_zero]; exact ho⟩
  have m3 : VarAt σ3 σ.next (mcs M) := (v1.same hS2 nofun).same hS3 (by simp; omega)
  have hap := append_vars (P := Try.prog) (t := 152) (u := 152) Try.underlying152 Try.underlying152 (by kernel_rfl : elemOk Try.prog 5 = some (1, [.int .u8 0])) g3 v3 m3 (by rw [mcs_len, h.len]; omega) (by rw [mcs_len, h.len]; simp) mcs_single
  rw [mcs_len, h.len] at hap
  simp only [List.length_cons, List.length_nil, Nat.zero_add, Nat.reduceAdd] at hap
  have hL : ([.int .u8 ((d / 256 % 256 : Nat) : Int), .int .u8 ((d % 256 : Nat) : Int)] : List Value) ++ mcs M = ([d / 256, d % 256] ++ M).map fun b : Nat => Value.int .u8 (b : Int) := by
    rw [show d / 256 % 256 = d / 256 by omega]; rfl
  obtain ⟨σ4, e4, hS4, v4, hn4⟩ := AE.oneVar σ3 5 (([d / 256, d % 256] ++ M).map fun b : Nat => Value.int .u8 (b : Int)) true
  rw [hL, e4] at hap
  have l4 : ldCells σ4 σ3.next 0 (8 * 1) = some (([d / 256, d % 256] ++ M).map fun b : Nat => Value.int .u8 (b : Int)) := by
    have := v4.ldCells
    rwa [List.length_map, List.length_append, h.len] at this
  have hcv := conv_bytes (P := Try.prog) (s := 152) (d := 9) (n := 8) (c := 8) Try.underlying152 Try.underlying9 Try.underlying5 l4
  rw [W_start (m := 16) (keep := []) Try.func130 rfl (by kernel_rfl) (by kernel_rfl) (by first | rfl | assumption | exact f.h130) (by rfl)]
  simp (maxSteps := 2000000) only [B0, B1, B2, B3, B4, B5, B6, B7, Gd, extV, Nat.reduceLT, Nat.reduceEqDiff, Nat.reduceBEq, Nat.reduceAdd, Nat.reduceSub, Nat.reduceMul, ↓reduceIte, reduceCtorEq, if_true, if_false, ite_true, ite_false, Int.reduceLT, Int.reduceLE, ptr, allocV_zero Try.zero_249, Try.st_249, Value.cells,  mcs_list,  e1,  shr8_64,  conv_int Try.underlying3 Try.underlying5,  wrapU8,  b0,  hσ2,  List.size_toArray,  t3,  slice_arr Try.underlying249 Try.size_5 (by omega),  slice_arr Try.underlying117 Try.size_5 (by omega),  hap,  hcv, rs_tmp (show Try.f130.results = #[.tmp 4] from rfl)]
  exact hQ σ4 ((((hS1.app hS2).app hS3).app hS4).old fun b hb => by simp at hb; exact .inr (by omega))
/-- The station of an entry. -/
def encSt (e : E) : List Value := .int .i64 (kD e.1 : Int) :: (mcs (kM e.1) ++ [.int .i64 e.2.1, .int .i64 e.2.2.1, .bool e.2.2.2])
abbrev stV (e : E) : Value := .agg (encSt e).toArray
theorem encStOk : Enc 10 encSt := ⟨fun _ => rfl, fun x v hv => by
  simp [encSt, mcs, kM] at hv
  rcases hv with rfl | rfl | rfl | rfl | rfl | rfl | rfl | rfl | rfl | rfl <;> rfl, by omega⟩
def zSt : List Value := [.int .i64 0, .int .u8 0, .int .u8 0, .int .u8 0, .int .u8 0, .int .u8 0, .int .u8 0, .int .i64 0, .int .i64 0, .bool false]
theorem bld120 {a p t : Int} {M : List Nat} {c0 c1 c2 c3 c4 c5 : Nat} {b : Bool} (hM : M = [c0, c1, c2, c3, c4, c5]) : build' Try.prog 120 [(0, .int .i64 a), (1, macV M), (2, .int .i64 p), (3, .int .i64 t), (4, .bool b)] = some (.agg (.int .i64 a :: (mcs M ++ [.int .i64 p, .int .i64 t, .bool b])).toArray) := by
  subst hM
  kernel_rfl
theorem take_mcs {k : ByteArray} (hk : k.size = 8) : ((k.data.toList.take 8).drop 2).map (fun b => Value.int .u8 (b.toNat : Int)) = mcs (kM k) := by
  obtain ⟨⟨l⟩⟩ := k
  have hl : l.length = 8 := hk
  match l, hl with
  | [a0, a1, a2, a3, a4, a5, a6, a7], _ => rfl
theorem ofe_run (f : FreeL orc) (e : E) (hk : e.1.size = 8) (hQ : ∀ σ', Same σ σ' [] → Q (stV e, σ')) : W (acall Try.prog gs orc (n + 1) 131 [enV e] σ) Q := by
  obtain ⟨σ1, e1, hS1, v1, hn1⟩ := AE.oneVar σ 69 (encE e) false
  obtain ⟨σ2, e2, hS2, v2, hn2⟩ := AE.oneVar σ1 120 zSt false
  have w2 := v1.same hS2 nofun
  have a0 : ld σ2 σ.next 0 = some (.string e.1) := w2.ld rfl
  have a1 : ld σ2 σ.next 1 = some (.int .i64 e.2.1) := w2.ld rfl
  have a2 : ld σ2 σ.next 2 = some (.int .i64 e.2.2.1) := w2.ld rfl
  have a3 : ld σ2 σ.next 3 = some (.bool e.2.2.2) := w2.ld rfl
  have i0 : indexVal Try.prog 9 (.string e.1) (.int .i64 0) = some (.int .u8 (kb e.1 0 : Int)) := index_str (i := 0) Try.underlying9 (by omega)
  have i1 : indexVal Try.prog 9 (.string e.1) (.int .i64 1) = some (.int .u8 (kb e.1 1 : Int)) := index_str (i := 1) Try.underlying9 (by omega)
  have hsl : ∀ {k1 k2 : IntKind} {τ : AHeap}, sliceOp Try.prog 9 (.string e.1) (some (.int k1 2)) (some (.int k2 8)) none τ = some (.string ⟨((e.1.data.toList.take 8).drop 2).toArray⟩) := slice_str2 (l := 2) (h := 8) Try.underlying9 (by omega) (by omega)
  obtain ⟨σ3, e3, hS3, v3, hn3⟩ := AE.oneVar σ2 5 (mcs (kM e.1)) true
  have hcv := conv_str (P := Try.prog) (s := 9) (d := 152) (u := ⟨((e.1.data.toList.take 8).drop 2).toArray⟩) (σ := σ2) Try.underlying9 Try.underlying152 Try.underlying5 Try.size_5
  have hz : (⟨((e.1.data.toList.take 8).drop 2).toArray⟩ : ByteArray).size = 6 := by
    show ((e.1.data.toList.take 8).drop 2).toArray.size = 6
    have : e.1.data.toList.length = 8 := hk
    simp only [List.size_toArray, List.length_drop, List.length_take, this]
    omega
  have hz2 : (⟨((e.1.data.toList.take 8).drop 2).toArray⟩ : ByteArray).data.toList.map (fun b => Value.int .u8 (b.toNat : Int)) = mcs (kM e.1) := take_mcs hk
  rw [hz, hz2, e3] at hcv
  have hs2 : s2apV Try.prog 117 (.slice (some ⟨σ2.next, 0, none⟩) 6 6) = some (.pointer (some ⟨σ2.next, 0, none⟩)) := by simp only [s2apV, Try.underlying117]; rfl
  have w3 := w2.same hS3 nofun
  have b0 : ld σ3 σ.next 0 = some (.string e.1) := w3.ld rfl
  have b1 : ld σ3 σ.next 1 = some (.int .i64 e.2.1) := w3.ld rfl
  have b2 : ld σ3 σ.next 2 = some (.int .i64 e.2.2.1) := w3.ld rfl
  have b3 : ld σ3 σ.next 3 = some (.bool e.2.2.2) := w3.ld rfl
  have l3 : ldCells σ3 σ2.next 0 6 = some (mcs (kM e.1)) := v3.ldCells
  obtain ⟨σ4, t4, v4, hS4, hn4⟩ := (v2.same hS3 nofun).store (vs' := encSt e) rfl (encStOk.single e)
  have l4 : ldCells σ4 σ1.next 0 10 = some (encSt e) := v4.ldCells
  have hlt : ((e.1.size : Int) < 8) = False := eq_false (by omega)
  have k1 := kb_lt (k := e.1) (i := 0)
  have k2 := kb_lt (k := e.1) (i := 1)
  have hw1 : IntKind.i64.wrap (kb e.1 0 : Int) = (kb e.1 0 : Int) := wrap64 (by omega) (by omega)
  have hw2 : IntKind.i64.wrap (kb e.1 1 : Int) = (kb e.1 1 : Int) := wrap64 (by omega) (by omega)
  have hor : (kb e.1 0 * 256) ||| kb e.1 1 = kD e.1 := or_byte k2
  have zz : ([.int .i64 0, .int .u8 0, .int .u8 0, .int .u8 0, .int .u8 0, .int .u8 0, .int .u8 0, .int .i64 0, .int .i64 0, .bool false] : List Value) = zSt := rfl
  have hd : (Value.int .i64 (kD e.1 : Int) :: (mcs (kM e.1) ++ [.int .i64 e.2.1, .int .i64 e.2.2.1, .bool e.2.2.2])) = encSt e := rfl
  have hsz : (encSt e).toArray.size = 10 := rfl
  have htl : (encSt e).toArray.toList = encSt e := rfl
  simp only [encE] at e1
  rw [W_start (m := 31) (keep := [3]) Try.func131 rfl (by kernel_rfl) (by kernel_rfl) (by first | rfl | assumption | exact f.h131) (by rfl)]
  simp (maxSteps := 2000000) only [B0, B1, B2, B3, B4, B5, B6, B7, Gd, extV, Nat.reduceLT, Nat.reduceEqDiff, Nat.reduceBEq, Nat.reduceAdd, Nat.reduceSub, Nat.reduceMul, ↓reduceIte, reduceCtorEq, if_true, if_false, ite_true, ite_false, Int.reduceLT, Int.reduceLE, ptr, allocV_zero Try.zero_120, Try.fa_69_0, Try.ld_9, Try.len_9, Try.st_120, Try.ld_117, Try.fa_69_1, Try.ld_3, Try.fa_69_2, Try.ld_2, Try.fa_69_3, Try.ld_4, Try.ld_120, enV,  Value.cells,  e1,  zz,  e2,  a0,  hlt, rs_c (show Try.f131.results = #[.cell 2 120] from rfl)]
  refine Eq.mpr (W_retold (ps := [(13, 1), (13, 3), (13, 6), (13, 8), (13, 17), (13, 19), (13, 21)]) (by kernel_rfl) (by kernel_rfl) (by simp)) ?_
  simp (maxSteps := 2000000) only [B0, B1, B2, B3, B4, B5, B6, B7, Gd, extV, Nat.reduceLT, Nat.reduceEqDiff, Nat.reduceBEq, Nat.reduceAdd, Nat.reduceSub, Nat.reduceMul, ↓reduceIte, reduceCtorEq, if_true, if_false, ite_true, ite_false, Int.reduceLT, Int.reduceLE, ptr, allocV_zero Try.zero_120, Try.fa_69_0, Try.ld_9, Try.len_9, Try.st_120, Try.ld_117, Try.fa_69_1, Try.ld_3, Try.fa_69_2, Try.ld_2, Try.fa_69_3, Try.ld_4, Try.ld_120, aop_s2ap (P := Try.prog),  enV,  Value.cells,  a0,  a1,  a2,  a3,  b0,  b1,  b2,  b3,  i0,  i1,  conv_int Try.underlying5 Try.underlying3,  hw1,  hw2,  shl8_64 k1,  bin_ori64 (show kb e.1 0 * 256 < 4611686018427387904 by omega) (show kb e.1 1 < 4611686018427387904 by omega),  hor,  hsl,  hcv,  hs2,  l3,  bld120 (M := kM e.1) rfl,  hd,  hsz,  htl,  t4,  l4, rs_c (show Try.f131.results = #[.cell 2 120] from rfl)]
  exact hQ σ4 ((((hS1.app hS2).app hS3).app hS4).old fun b hb => by simp at hb; exact .inr (by omega))
theorem alls_run (f : FreeL orc) {va : Value} {A : List E} (ha : SlR σ 4 encE va A) (hk : ∀ e ∈ A, e.1.size = 8) (hn : A.length < n) (hN : A.length ≤ 100000)
    (hQ : ∀ σ' v, SlAt σ' 120 10 encSt v A → (∀ b ∈ blks v, σ.next ≤ b) → Same σ σ' [] → Q (v, σ')) : W (acall Try.prog gs orc (n + 2) 128 [va] σ) Q := by
  obtain ⟨a, c, rfl⟩ := ha.len
  rw [W_start (m := 19) (keep := []) Try.func128 rfl (by kernel_rfl) (by kernel_rfl) (by first | rfl | assumption | exact f.h128) (by rfl)]
  simp (maxSteps := 2000000) only [B0, B1, B2, B3, B4, B5, B6, B7, Gd, extV, Nat.reduceLT, Nat.reduceEqDiff, Nat.reduceBEq, Nat.reduceAdd, Nat.reduceSub, Nat.reduceMul, ↓reduceIte, reduceCtorEq, if_true, if_false, ite_true, ite_false, Int.reduceLT, Int.reduceLE, ptr, Try.len_66, Try.ia_66, Try.ld_69, allocV_zero Try.zero_69, Try.st_69, callV_func Try.enters_131, rs_tmp (show Try.f128.results = #[.tmp 2] from rfl)]
  refine W_inv (fun m fr σ' => ∃ (t : Tr Value) (i : Nat) (v : Value), fr = ⟨19, t⟩ ∧ t.get 0 = some (.slice a A.length c) ∧ t.get 3 = some v ∧ t.get 6 = some (.slice a A.length c) ∧ t.get 7 = some (.int .i64 (A.length : Int)) ∧ t.get 8 = some (.int .i64 (i : Int)) ∧ m + i = A.length ∧ SlAt σ' 120 10 encSt v (A.take i) ∧ (∀ b ∈ blks v, σ.next ≤ b) ∧ Same σ σ' []) A.length (by omega)
    ⟨_, 0, .slice none 0 0, rfl, by simp [get_put, get_args], by simp [get_put], by simp [get_put, get_args], by simp [get_put], by simp [get_put], rfl, .inl ⟨rfl, by simp⟩, nofun, .refl _ _⟩ ?_
  rintro m fr σ3 ⟨t, i, v, rfl, t0, t3, t6, t7, t8, hm, hv, hbv, hS3⟩
  have hn3 := hS3.next
  by_cases hlt : i < A.length
  · have hx := List.getElem?_eq_getElem hlt
    have hxm := List.getElem_mem hlt
    have htk : A.take (i + 1) = A.take i ++ [A[i]] := by rw [List.take_add_one, hx]; rfl
    generalize A[i] = x at hx hxm htk
    obtain ⟨b, o, cap, e, hbl, hr⟩ := ha.at_ hx
    injection e with e e2 e3
    subst e e3
    have hr3 : ldCells σ3 b (o + i * 4) 4 = some (encE x) := by rw [hS3.ldCells hbl nofun]; exact hr
    obtain ⟨σ4, σ5, e4, t5, hS5, v5, hn5, hS4⟩ := AE.newVar σ3 69 (encE zE) (encE x) rfl (encEOk.single x)
    have l5 : ldCells σ5 σ3.next 0 4 = some (encE x) := v5.ldCells
    have hlt' : ((i : Int) < (A.length : Int)) = True := eq_true (by omega)
    have hw1 : IntKind.i64.wrap ((i : Int) + 1) = ((i + 1 : Nat) : Int) := wrap64 (by omega) (by omega)
    simp only [encE] at e4 t5 l5 hr3
    simp (maxSteps := 2000000) only [B0, B1, B2, B3, B4, B5, B6, B7, Gd, extV, Nat.reduceLT, Nat.reduceEqDiff, Nat.reduceBEq, Nat.reduceAdd, Nat.reduceSub, Nat.reduceMul, ↓reduceIte, reduceCtorEq, if_true, if_false, ite_true, ite_false, Int.reduceLT, Int.reduceLE, ptr, Try.len_66, Try.ia_66, Try.ld_69, allocV_zero Try.zero_69, Try.st_69, callV_func Try.enters_131, t0,  t3,  t6,  t7,  t8,  hlt',  hlt,  hr3,  e4,  t5,  l5,  Value.cells,  List.size_toArray, rs_tmp (show Try.f128.results = #[.tmp 2] from rfl)]
    refine ofe_run f x (hk x hxm) fun σ6 hS6 => ?_
    have hv6 := (hv.same hS5 nofun).same hS6 nofun
    obtain ⟨av, cv, rfl, hcv⟩ := hv.len
    obtain ⟨σ7, v8, σ8, hbs, hap, hv8, hS8, hb8, hS7, hn8⟩ := append_one encStOk Try.underlying109 Try.underlying109 Try.elem_120 rfl (by decide) hv6 x (xv := stV x) rfl (by simp; omega)
    simp (maxSteps := 2000000) only [B0, B1, B2, B3, B4, B5, B6, B7, Gd, extV, Nat.reduceLT, Nat.reduceEqDiff, Nat.reduceBEq, Nat.reduceAdd, Nat.reduceSub, Nat.reduceMul, ↓reduceIte, reduceCtorEq, if_true, if_false, ite_true, ite_false, Int.reduceLT, Int.reduceLE, ptr, Try.len_66, Try.ia_66, Try.ld_69, allocV_zero Try.zero_69, Try.st_69, callV_func Try.enters_131, t0,  t3,  t6,  t7,  t8,  hbs,  hap,  hw1,  KInv_normal, rs_tmp (show Try.f128.results = #[.tmp 2] from rfl)]
    rw [← htk] at hv8
    have n5 := hS5.next
    have n6 := hS6.next
    exact ⟨A.length - (i + 1), by omega, _, i + 1, v8, rfl, by simp [get_put, t0], by simp [get_put], by simp [get_put, t6], by simp [get_put, t7], by simp [get_put], by omega, hv8, (fun b hb => by rcases hb8 b hb with w | w; exact hbv b w; omega), ((((hS3.app hS5).app hS6).app hS8).old fun b hb => by simp only [List.nil_append] at hb; exact .inr (hbv b hb))⟩
  · have hlt' : ((i : Int) < (A.length : Int)) = False := eq_false (by omega)
    have htk : A.take i = A := List.take_of_length_le (by omega)
    rw [htk] at hv
    simp (maxSteps := 2000000) only [B0, B1, B2, B3, B4, B5, B6, B7, Gd, extV, Nat.reduceLT, Nat.reduceEqDiff, Nat.reduceBEq, Nat.reduceAdd, Nat.reduceSub, Nat.reduceMul, ↓reduceIte, reduceCtorEq, if_true, if_false, ite_true, ite_false, Int.reduceLT, Int.reduceLE, ptr, Try.len_66, Try.ia_66, Try.ld_69, allocV_zero Try.zero_69, Try.st_69, callV_func Try.enters_131, t0,  t3,  t6,  t7,  t8,  hlt', rs_tmp (show Try.f128.results = #[.tmp 2] from rfl)]
    exact hQ σ3 v hv hbv hS3
end Go.Proofs.Ytongccpmdndcgaa.Lrn
end
/- Stations in memory: their methods. -/
section
set_option linter.all false
namespace Go.Proofs.Ytongccpmdndcgaa.Lrn
open Go Go.AE Go.Proofs.Ytongccpmdndcgaa.Alm Go.Proofs.Ytongccpmdndcgaa.Tab Go.Sort Go.Proofs
set_option maxRecDepth 100000
set_option maxHeartbeats 2000000
attribute [local irreducible] Go.AE.Tr.put Go.AE.Tr.get
variable {gs : List Nat} {orc : Orc} {n : Nat} {σ : AHeap} {Q : Value × AHeap → Prop}
variable {s tp : Nat} {F : List Nat} {T : List E} {age : Int}

/-- A station that may be. -/
structure Sta (d : Nat) (M : List Nat) : Prop where
  mac : Mac M
  dom : okDom (d : Int)
  even : ∃ b0, M[0]? = some b0 ∧ b0 % 2 = 0
  nz : M ≠ [0, 0, 0, 0, 0, 0]
theorem Sta.lt {d : Nat} {M : List Nat} (h : Sta d M) : d < 65536 := by have := h.dom; unfold okDom at this; omega
theorem Sta.size {d : Nat} {M : List Nat} (h : Sta d M) : (keyB d M).size = 8 := keyB_size h.mac.len
/-- The stations. -/
structure LAt (σ : AHeap) (s tp : Nat) (F : List Nat) (T : List E) (age : Int) : Prop where
  obj : VarAt σ s [pt tp, .int .i64 age]
  tab : TAt σ tp F T 256 false
  sF : s ∉ F
  k8 : ∀ e ∈ T, e.1.size = 8
theorem LAt.same {σ' : AHeap} {G : List Nat} (h : LAt σ s tp F T age) (hs : Same σ σ' G) (h1 : s ∉ G) (h2 : ∀ b ∈ F, b ∉ G) : LAt σ' s tp F T age := ⟨h.obj.same hs h1, h.tab.same hs h2, h.sF, h.k8⟩
theorem LAt.step {σ' : AHeap} (h : LAt σ s tp F T age) (hs : Same σ σ' []) : LAt σ' s tp F T age := h.same hs nofun nofun
theorem LAt.ld0 (h : LAt σ s tp F T age) : ld σ s 0 = some (pt tp) := h.obj.ld rfl
theorem LAt.ld1 (h : LAt σ s tp F T age) : ld σ s 1 = some (.int .i64 age) := h.obj.ld rfl
theorem LAt.call {σ' : AHeap} {F' : List Nat} {T' : List E} (h : LAt σ s tp F T age) (hh : TAt σ' tp F' T' 256 false) (hF : ∀ b ∈ F', b ∈ F ∨ σ.next ≤ b) (hS : Same σ σ' F) (hk : ∀ e ∈ T', e.1.size = 8) : LAt σ' s tp F' T' age :=
  ⟨h.obj.same hS h.sF, hh, fun q => by rcases hF s q with z | z; exact h.sF z; have := h.obj.1; omega, hk⟩
theorem lnone_run (h127 : orc 127 = none) (h : LAt σ s tp F T age) : W (acall Try.prog gs orc (n + 1) 127 [pt s] σ) Q = Q (.bool false, σ) := by
  rw [W_start (m := 12) (keep := []) Try.func127 rfl (by kernel_rfl) (by kernel_rfl) (by first | rfl | assumption | exact f.h127) (by rfl)]
  simp (maxSteps := 2000000) only [B0, B1, B2, B3, B4, B5, B6, B7, Gd, extV, Nat.reduceLT, Nat.reduceEqDiff, Nat.reduceBEq, Nat.reduceAdd, Nat.reduceSub, Nat.reduceMul, ↓reduceIte, reduceCtorEq, if_true, if_false, ite_true, ite_false, Int.reduceLT, Int.reduceLE, ptr, Try.fa_137_0, Try.ld_61, bin_nilp Try.underlying101,  bin_nilp Try.underlying61,  h.ld0, rs_tmp (show Try.f127.results = #[.tmp 2] from rfl)]
theorem lasks_run (f : FreeL orc) (h : LAt σ s tp F T age) {d : Nat} {M : List Nat} (hs : Sta d M) {p : Int} (hp : 0 ≤ p ∧ p < 16) (hn : 10 < n) (hQ : ∀ σ', Same σ σ' [] → Q (.int .i64 0, σ')) : W (acall Try.prog gs orc (n + 4) 129 [pt s, .int .i64 (d : Int), macV M, .int .i64 p] σ) Q := by
  obtain ⟨σ1, e1, hS1, v1, hn1⟩ := AE.oneVar σ 117 (mcs M) false
  have l1 : ldCells σ1 σ.next 0 6 = some (mcs M) := by have := v1.ldCells; rwa [mcs_len, hs.mac.len] at this
  have h1 := h.step hS1
  obtain ⟨b0, hb0, he⟩ := hs.even
  have c1 : (p < 0) = False := eq_false (by omega)
  have c2 : ((16 : Int) ≤ p) = False := eq_false (by omega)
  rw [W_start (m := 29) (keep := []) Try.func129 rfl (by kernel_rfl) (by kernel_rfl) (by first | rfl | assumption | exact f.h129) (by rfl)]
  simp (maxSteps := 2000000) only [B0, B1, B2, B3, B4, B5, B6, B7, Gd, extV, Nat.reduceLT, Nat.reduceEqDiff, Nat.reduceBEq, Nat.reduceAdd, Nat.reduceSub, Nat.reduceMul, ↓reduceIte, reduceCtorEq, if_true, if_false, ite_true, ite_false, Int.reduceLT, Int.reduceLE, ptr, callV_func Try.enters_127, callV_func Try.enters_165, Try.ld_117, callV_func Try.enters_166, Value.cells,  mcs_list,  e1,  lnone_run f.h127 h1,  domain_run f.toFreeM hs.dom,  l1, rs_tmp (show Try.f129.results = #[.tmp 8] from rfl)]
  refine kind_run f.toFreeM hs.mac hb0 he hs.nz (by omega) fun σ2 hS2 => ?_
  simp (maxSteps := 2000000) only [B0, B1, B2, B3, B4, B5, B6, B7, Gd, extV, Nat.reduceLT, Nat.reduceEqDiff, Nat.reduceBEq, Nat.reduceAdd, Nat.reduceSub, Nat.reduceMul, ↓reduceIte, reduceCtorEq, if_true, if_false, ite_true, ite_false, Int.reduceLT, Int.reduceLE, ptr, callV_func Try.enters_127, callV_func Try.enters_165, Try.ld_117, callV_func Try.enters_166, c1,  c2,  Int.reduceEq, rs_tmp (show Try.f129.results = #[.tmp 8] from rfl)]
  exact hQ σ2 (hS1.trans hS2 nofun)
theorem dueT_mem' (h : KS T) {now : Int} {e : E} (he : e ∈ dueT T now) : e ∈ T := by
  unfold dueT at he
  obtain ⟨x, hx, rfl⟩ := List.mem_map.1 he
  have hx' : x ∈ alS T := (List.takeWhile_sublist _).subset hx
  obtain ⟨e', he', hs, rfl⟩ := (alS_mem h).1 hx'
  have := getE_mem h.nd he'
  show (getE e'.1 T).getD zE ∈ T
  rw [this]; exact he'
theorem dueT_len' (h : KS T) (now : Int) : (dueT T now).length ≤ T.length := by
  unfold dueT
  rw [List.length_map]
  exact Nat.le_trans (List.takeWhile_sublist _).length_le (alS_len h)
theorem bld137 {a : Nat} {t : Int} : build' Try.prog 137 [(0, pt a), (1, .int .i64 t)] = some (.agg #[pt a, .int .i64 t]) := by kernel_rfl
theorem lnew_run (f : FreeL orc) {t : Int} (h1 : 0 ≤ t) (h2 : t ≤ 1099511627776)
    (hQ : ∀ σ' s tp F, LAt σ' s tp F [] t → σ.next ≤ s → (∀ b ∈ F, σ.next ≤ b) → Same σ σ' [] → Q (.tuple #[pt s, .int .i64 0], σ')) : W (acall Try.prog gs orc (n + 3) 64 [.int .i64 t] σ) Q := by
  rw [W_start (m := 20) (keep := []) Try.func64 rfl (by kernel_rfl) (by kernel_rfl) (by first | rfl | assumption | exact f.h64) (by rfl)]
  simp (maxSteps := 2000000) only [B0, B1, B2, B3, B4, B5, B6, B7, Gd, extV, Nat.reduceLT, Nat.reduceEqDiff, Nat.reduceBEq, Nat.reduceAdd, Nat.reduceSub, Nat.reduceMul, ↓reduceIte, reduceCtorEq, if_true, if_false, ite_true, ite_false, Int.reduceLT, Int.reduceLE, ptr, callV_func Try.enters_126, callV_func Try.enters_36, may_run f.toFreeM h1 h2, rs_two (show Try.f64.results = #[.tmp 2,  .tmp 3] from rfl)]
  refine tnew_run (room := 256) f.toFreeT (by omega) fun σ1 tp F t1 hF1 hS1 => ?_
  obtain ⟨σ2, e2, hS2, v2, hn2⟩ := AE.oneVar σ1 137 [pt tp, .int .i64 t] false
  simp (maxSteps := 2000000) only [B0, B1, B2, B3, B4, B5, B6, B7, Gd, extV, Nat.reduceLT, Nat.reduceEqDiff, Nat.reduceBEq, Nat.reduceAdd, Nat.reduceSub, Nat.reduceMul, ↓reduceIte, reduceCtorEq, if_true, if_false, ite_true, ite_false, Int.reduceLT, Int.reduceLE, ptr, callV_func Try.enters_126, callV_func Try.enters_36, Int.reduceEq,  bld137,  Value.cells,  e2, rs_two (show Try.f64.results = #[.tmp 2,  .tmp 3] from rfl)]
  have hn1 := hS1.next
  exact hQ σ2 σ1.next tp F ⟨v2, t1.same hS2 nofun, fun q => by have := t1.low _ q; omega, nofun⟩ (by omega) hF1 (hS1.trans hS2 nofun)
/-- What Tick takes. -/
theorem ltick_run (f : FreeL orc) (h : LAt σ s tp F T age) (now : Int) (hn : 1024 < n)
    (hQ : ∀ σ' v, LAt σ' s tp F (restT T now) age → SlAt σ' 120 10 encSt v (dueT T now) → (∀ b ∈ blks v, σ.next ≤ b) → Same σ σ' F → Q (v, σ')) : W (acall Try.prog gs orc (n + 14) 65 [pt s, .int .i64 now] σ) Q := by
  rw [W_start (m := 14) (keep := []) Try.func65 rfl (by kernel_rfl) (by kernel_rfl) (by first | rfl | assumption | exact f.h65) (by rfl)]
  simp (maxSteps := 2000000) only [B0, B1, B2, B3, B4, B5, B6, B7, Gd, extV, Nat.reduceLT, Nat.reduceEqDiff, Nat.reduceBEq, Nat.reduceAdd, Nat.reduceSub, Nat.reduceMul, ↓reduceIte, reduceCtorEq, if_true, if_false, ite_true, ite_false, Int.reduceLT, Int.reduceLE, ptr, callV_func Try.enters_127, Try.fa_137_0, Try.ld_61, callV_func Try.enters_47, callV_func Try.enters_128, lnone_run f.h127 h,  h.ld0, rs_tmp (show Try.f65.results = #[.tmp 4] from rfl)]
  refine due_t f.toFreeT h.tab now (by omega) fun σ1 v1 h1 hv1 hb1 hS1 => ?_
  have hl := h.tab.len
  have hdl : (dueT T now).length ≤ T.length := dueT_len' h.tab.ks now
  have n1 := hS1.next
  simp (maxSteps := 2000000) only [B0, B1, B2, B3, B4, B5, B6, B7, Gd, extV, Nat.reduceLT, Nat.reduceEqDiff, Nat.reduceBEq, Nat.reduceAdd, Nat.reduceSub, Nat.reduceMul, ↓reduceIte, reduceCtorEq, if_true, if_false, ite_true, ite_false, Int.reduceLT, Int.reduceLE, ptr, callV_func Try.enters_127, Try.fa_137_0, Try.ld_61, callV_func Try.enters_47, callV_func Try.enters_128, rs_tmp (show Try.f65.results = #[.tmp 4] from rfl)]
  refine alls_run f (hv1.toR encEOk) (fun e he => h.k8 e (dueT_mem' h.tab.ks he)) (by omega) (by omega) fun σ2 v2 hv2 hb2 hS2 => ?_
  simp (maxSteps := 2000000) only [B0, B1, B2, B3, B4, B5, B6, B7, Gd, extV, Nat.reduceLT, Nat.reduceEqDiff, Nat.reduceBEq, Nat.reduceAdd, Nat.reduceSub, Nat.reduceMul, ↓reduceIte, reduceCtorEq, if_true, if_false, ite_true, ite_false, Int.reduceLT, Int.reduceLE, ptr, callV_func Try.enters_127, Try.fa_137_0, Try.ld_61, callV_func Try.enters_47, callV_func Try.enters_128, rs_tmp (show Try.f65.results = #[.tmp 4] from rfl)]
  exact hQ σ2 v2 ((h.call h1 (fun b hb => .inl hb) hS1 fun e he => h.k8 e (mem_rest.1 he).1).step hS2) hv2 (fun b hb => by have := hb2 b hb; omega) (hS1.trans hS2 nofun)
theorem lage_run (f : FreeL orc) (h : LAt σ s tp F T age) : W (acall Try.prog gs orc (n + 2) 66 [pt s] σ) Q = Q (.int .i64 age, σ) := by
  rw [W_start (m := 9) (keep := []) Try.func66 rfl (by kernel_rfl) (by kernel_rfl) (by first | rfl | assumption | exact f.h66) (by rfl)]
  simp (maxSteps := 2000000) only [B0, B1, B2, B3, B4, B5, B6, B7, Gd, extV, Nat.reduceLT, Nat.reduceEqDiff, Nat.reduceBEq, Nat.reduceAdd, Nat.reduceSub, Nat.reduceMul, ↓reduceIte, reduceCtorEq, if_true, if_false, ite_true, ite_false, Int.reduceLT, Int.reduceLE, ptr, callV_func Try.enters_127, Try.fa_137_1, Try.ld_2, lnone_run f.h127 h,  h.ld1, rs_tmp (show Try.f66.results = #[.tmp 2] from rfl)]
theorem float_var {σ : AHeap} {b u : Nat} (hb : b < σ.next) {e : TypeId} {zs vs : List Value} (hl : vs.length = zs.length) (hs : ∀ v ∈ vs, single v = true) :
    ∃ σ', stCells (σ.set b (Fl.obj ⟨u, e, zs⟩)) b 0 vs = some σ' ∧ VarAt σ' b vs ∧ Same σ σ' [b] ∧ σ'.next = σ.next := by
  have v0 : VarAt (σ.set b (Fl.obj ⟨u, e, zs⟩)) b zs := ⟨hb, _, _, _, _, by rw [AHeap.get_set, if_pos rfl]; rfl, fun o v ho => by rw [Tr.get_of]; exact ho⟩
  obtain ⟨σ', t, v, hS, hn⟩ := v0.store hl hs
  exact ⟨σ', t, v, ((Same.set σ b _).app hS).old fun c hc => by simp at hc; exact .inl (by simp [hc]), by rw [hn]; rfl⟩
theorem Same.bump (σ : AHeap) (N : Nat) : Same σ ⟨σ.next + N, σ.m⟩ [] := ⟨Nat.le_add_right _ _, fun _ _ _ => rfl⟩
theorem zst : ([.int .i64 0, .int .u8 0, .int .u8 0, .int .u8 0, .int .u8 0, .int .u8 0, .int .u8 0, .int .i64 0, .int .i64 0, .bool false] : List Value) = zSt := rfl
theorem bld120z : build' Try.prog 120 [] = some (.agg zSt.toArray) := by kernel_rfl
theorem lfind_run (f : FreeL orc) (h : LAt σ s tp F T age) {d : Nat} {M : List Nat} (hs : Sta d M) (hn : 20 < n)
    (hQ : ∀ σ', Same σ σ' [] → Q (.tuple #[.agg (((getE (keyB d M) T).map encSt).getD zSt).toArray, .bool (getE (keyB d M) T).isSome], σ')) : W (acall Try.prog gs orc (n + 5) 69 [pt s, .int .i64 (d : Int), macV M] σ) Q := by
  obtain ⟨σ1, e1, hS1, v1, hn1⟩ := AE.oneVar σ 117 (mcs M) false
  obtain ⟨σ2, e2, hS2, v2, hn2⟩ := AE.oneVar σ1 120 zSt false
  have ld6 : ∀ {τ : AHeap}, VarAt τ σ.next (mcs M) → ldCells τ σ.next 0 6 = some (mcs M) := fun v => by have := v.ldCells; rwa [mcs_len, hs.mac.len] at this
  have w2 := v1.same hS2 nofun
  have h2 := (h.step hS1).step hS2
  have zt : zSt.toArray.toList = zSt := rfl
  have zz : zSt.toArray.size = 10 := rfl
  rw [W_start (m := 32) (keep := [3]) Try.func69 rfl (by kernel_rfl) (by kernel_rfl) (by first | rfl | assumption | exact f.h69) (by rfl)]
  simp (maxSteps := 2000000) only [B0, B1, B2, B3, B4, B5, B6, B7, Gd, extV, Nat.reduceLT, Nat.reduceEqDiff, Nat.reduceBEq, Nat.reduceAdd, Nat.reduceSub, Nat.reduceMul, ↓reduceIte, reduceCtorEq, if_true, if_false, ite_true, ite_false, Int.reduceLT, Int.reduceLE, ptr, allocV_zero Try.zero_120, Try.ld_117, callV_func Try.enters_129, Try.st_120, Try.fa_137_0, Try.ld_61, callV_func Try.enters_130, callV_func Try.enters_38, allocV_zero Try.zero_69, Try.st_69, Try.ld_69, callV_func Try.enters_131, Try.ld_120, Value.cells,  mcs_list,  e1,  zst,  zt,  e2,  ld6 w2, rs_ct (show Try.f69.results = #[.cell 6 120,  .tmp 7] from rfl)]
  refine lasks_run f h2 hs (by omega) (by omega) fun σ3 hS3 => ?_
  have h3 := h2.step hS3
  have w3 := w2.same hS3 nofun
  have x3 := v2.same hS3 nofun
  simp (maxSteps := 2000000) only [B0, B1, B2, B3, B4, B5, B6, B7, Gd, extV, Nat.reduceLT, Nat.reduceEqDiff, Nat.reduceBEq, Nat.reduceAdd, Nat.reduceSub, Nat.reduceMul, ↓reduceIte, reduceCtorEq, if_true, if_false, ite_true, ite_false, Int.reduceLT, Int.reduceLE, ptr, allocV_zero Try.zero_120, Try.ld_117, callV_func Try.enters_129, Try.st_120, Try.fa_137_0, Try.ld_61, callV_func Try.enters_130, callV_func Try.enters_38, allocV_zero Try.zero_69, Try.st_69, Try.ld_69, callV_func Try.enters_131, Try.ld_120, Int.reduceEq, rs_ct (show Try.f69.results = #[.cell 6 120,  .tmp 7] from rfl)]
  refine W_float (u := 11) (e := 69) (N := 14) (ps := [(6, 3), (11, 3), (11, 5)]) Try.zero_69 (by kernel_rfl) rfl rfl rfl rfl rfl ?_
  have hSb := Same.bump σ3 14
  obtain ⟨τ, hτ⟩ : ∃ τ, (⟨σ3.next + 14, σ3.m⟩ : AHeap) = τ := ⟨_, rfl⟩
  have nτ : τ.next = σ3.next + 14 := by rw [← hτ]
  rw [hτ] at hSb ⊢
  have h4 := h3.step hSb
  have w4 := w3.same hSb nofun
  have x4 := x3.same hSb nofun
  simp (maxSteps := 2000000) only [B0, B1, B2, B3, B4, B5, B6, B7, Gd, extV, Nat.reduceLT, Nat.reduceEqDiff, Nat.reduceBEq, Nat.reduceAdd, Nat.reduceSub, Nat.reduceMul, ↓reduceIte, reduceCtorEq, if_true, if_false, ite_true, ite_false, Int.reduceLT, Int.reduceLE, ptr, allocV_zero Try.zero_120, Try.ld_117, callV_func Try.enters_129, Try.st_120, Try.fa_137_0, Try.ld_61, callV_func Try.enters_130, callV_func Try.enters_38, allocV_zero Try.zero_69, Try.st_69, Try.ld_69, callV_func Try.enters_131, Try.ld_120, List.take_succ_cons,  List.take_zero,  List.drop_succ_cons,  List.drop_zero,  h4.ld0,  ld6 w4, rs_ct (show Try.f69.results = #[.cell 6 120,  .tmp 7] from rfl)]
  refine key_run f hs.lt hs.mac fun σ5 hS5 => ?_
  have h5 := h4.step hS5
  have w5 := w4.same hS5 nofun
  simp (maxSteps := 2000000) only [B0, B1, B2, B3, B4, B5, B6, B7, Gd, extV, Nat.reduceLT, Nat.reduceEqDiff, Nat.reduceBEq, Nat.reduceAdd, Nat.reduceSub, Nat.reduceMul, ↓reduceIte, reduceCtorEq, if_true, if_false, ite_true, ite_false, Int.reduceLT, Int.reduceLE, ptr, allocV_zero Try.zero_120, Try.ld_117, callV_func Try.enters_129, Try.st_120, Try.fa_137_0, Try.ld_61, callV_func Try.enters_130, callV_func Try.enters_38, allocV_zero Try.zero_69, Try.st_69, Try.ld_69, callV_func Try.enters_131, Try.ld_120, h4.ld0,  h5.ld0,  ld6 w4,  ld6 w5, rs_ct (show Try.f69.results = #[.cell 6 120,  .tmp 7] from rfl)]
  refine get_run f.toFreeT h5.tab (keyB d M) fun σ6 hS6 => ?_
  have h6 := h5.step hS6
  have w6 := w5.same hS6 nofun
  have n5 := hS5.next
  have n6 := hS6.next
  obtain ⟨σ7, t7, v7, hS7, hn7⟩ := float_var (σ := σ6) (b := σ3.next + 11) (u := 11) (by omega) (e := 69) (zs := encE zE) (vs := encE ((getE (keyB d M) T).getD zE)) rfl (encEOk.single _)
  have x7 := ((x4.same hS5 nofun).same hS6 nofun).same hS7 (by have := x3.1; simp; omega)
  have hSall : Same σ σ7 [] := ((((((hS1.app hS2).app hS3).app hSb).app hS5).app hS6).app hS7).old fun b hb => by simp at hb; have := hS3.next; exact .inr (by omega)
  have l7 : ldCells σ7 (σ3.next + 11) 0 4 = some (encE ((getE (keyB d M) T).getD zE)) := v7.ldCells
  simp only [encE] at t7 l7
  simp (maxSteps := 2000000) only [B0, B1, B2, B3, B4, B5, B6, B7, Gd, extV, Nat.reduceLT, Nat.reduceEqDiff, Nat.reduceBEq, Nat.reduceAdd, Nat.reduceSub, Nat.reduceMul, ↓reduceIte, reduceCtorEq, if_true, if_false, ite_true, ite_false, Int.reduceLT, Int.reduceLE, ptr, allocV_zero Try.zero_120, Try.ld_117, callV_func Try.enters_129, Try.st_120, Try.fa_137_0, Try.ld_61, callV_func Try.enters_130, callV_func Try.enters_38, allocV_zero Try.zero_69, Try.st_69, Try.ld_69, callV_func Try.enters_131, Try.ld_120, KFl_mk,  enV,  Value.cells,  List.size_toArray,  t7,  h4.ld0,  h5.ld0,  h6.ld0,  ld6 w4,  ld6 w5,  ld6 w6,  same_mac, rs_ct (show Try.f69.results = #[.cell 6 120,  .tmp 7] from rfl)]
  cases hg : getE (keyB d M) T with
  | none =>
    obtain ⟨σ8, t8, v8, hS8, hn8⟩ := x7.store (vs' := zSt) rfl (by intro v hv; simp [zSt] at hv; rcases hv with rfl | rfl | rfl | rfl <;> rfl)
    have l8 : ldCells σ8 σ1.next 0 10 = some zSt := v8.ldCells
    simp (maxSteps := 2000000) only [B0, B1, B2, B3, B4, B5, B6, B7, Gd, extV, Nat.reduceLT, Nat.reduceEqDiff, Nat.reduceBEq, Nat.reduceAdd, Nat.reduceSub, Nat.reduceMul, ↓reduceIte, reduceCtorEq, if_true, if_false, ite_true, ite_false, Int.reduceLT, Int.reduceLE, ptr, allocV_zero Try.zero_120, Try.ld_117, callV_func Try.enters_129, Try.st_120, Try.fa_137_0, Try.ld_61, callV_func Try.enters_130, callV_func Try.enters_38, allocV_zero Try.zero_69, Try.st_69, Try.ld_69, callV_func Try.enters_131, Try.ld_120, Option.isSome_none,  bld120z,  Value.cells,  zt,  zz,  t8,  l8, rs_ct (show Try.f69.results = #[.cell 6 120,  .tmp 7] from rfl)]
    have := hQ σ8 ((hSall.app hS8).old fun b hb => by simp at hb; exact .inr (by omega))
    rw [hg] at this
    exact this
  | some e =>
    have hke := (getE_key hg).2
    rw [hg] at l7
    simp only [Option.getD_some] at l7
    simp (maxSteps := 2000000) only [B0, B1, B2, B3, B4, B5, B6, B7, Gd, extV, Nat.reduceLT, Nat.reduceEqDiff, Nat.reduceBEq, Nat.reduceAdd, Nat.reduceSub, Nat.reduceMul, ↓reduceIte, reduceCtorEq, if_true, if_false, ite_true, ite_false, Int.reduceLT, Int.reduceLE, ptr, allocV_zero Try.zero_120, Try.ld_117, callV_func Try.enters_129, Try.st_120, Try.fa_137_0, Try.ld_61, callV_func Try.enters_130, callV_func Try.enters_38, allocV_zero Try.zero_69, Try.st_69, Try.ld_69, callV_func Try.enters_131, Try.ld_120, Option.isSome_some,  Option.getD_some,  enV,  l7, rs_ct (show Try.f69.results = #[.cell 6 120,  .tmp 7] from rfl)]
    refine ofe_run f e (h.k8 e (getE_key hg).1) fun σ8 hS8 => ?_
    obtain ⟨σ9, t9, v9, hS9, hn9⟩ := (x7.same hS8 nofun).store (vs' := encSt e) rfl (encStOk.single e)
    have l9 : ldCells σ9 σ1.next 0 10 = some (encSt e) := v9.ldCells
    have hsz : (encSt e).toArray.size = 10 := rfl
    have htl : (encSt e).toArray.toList = encSt e := rfl
    simp (maxSteps := 2000000) only [B0, B1, B2, B3, B4, B5, B6, B7, Gd, extV, Nat.reduceLT, Nat.reduceEqDiff, Nat.reduceBEq, Nat.reduceAdd, Nat.reduceSub, Nat.reduceMul, ↓reduceIte, reduceCtorEq, if_true, if_false, ite_true, ite_false, Int.reduceLT, Int.reduceLE, ptr, allocV_zero Try.zero_120, Try.ld_117, callV_func Try.enters_129, Try.st_120, Try.fa_137_0, Try.ld_61, callV_func Try.enters_130, callV_func Try.enters_38, allocV_zero Try.zero_69, Try.st_69, Try.ld_69, callV_func Try.enters_131, Try.ld_120, Value.cells,  hsz,  htl,  t9,  l9, rs_ct (show Try.f69.results = #[.cell 6 120,  .tmp 7] from rfl)]
    have := hQ σ9 (((hSall.app hS8).app hS9).old fun b hb => by simp at hb; exact .inr (by omega))
    rw [hg] at this
    exact this
end Go.Proofs.Ytongccpmdndcgaa.Lrn
end
/- Stations in memory: See, Fix, Drop. -/
section
set_option linter.all false
namespace Go.Proofs.Ytongccpmdndcgaa.Lrn
open Go Go.AE Go.Proofs.Ytongccpmdndcgaa.Alm Go.Proofs.Ytongccpmdndcgaa.Tab Go.Sort Go.Proofs
set_option maxRecDepth 100000
set_option maxHeartbeats 2000000
attribute [local irreducible] Go.AE.Tr.put Go.AE.Tr.get
variable {gs : List Nat} {orc : Orc} {n : Nat} {σ : AHeap} {Q : Value × AHeap → Prop}
variable {s tp : Nat} {F : List Nat} {T : List E} {age : Int}

def seeT (T : List E) (age : Int) (k : ByteArray) (port now : Int) : List E × Int :=
  if ((getE k T).map (·.2.2.2)).getD false then (T, if ((getE k T).map (·.2.1)).getD 0 = port then 0 else 3)
  else if age = 0 then ((dropT T k).1, 0)
  else
    ((putT T 256 false k port (if 1099511627776 < now + age then 1099511627776 else now + age)).1,
      if (putT T 256 false k port (if 1099511627776 < now + age then 1099511627776 else now + age)).2.2 = 0 then (match getE k T with | some e => if e.2.1 = port then 0 else 2 | none => 1) else 0)
theorem layT_mem {room : Nat} {ref : Bool} {e x : E} (h : x ∈ (layT T room ref e).1) : x ∈ T ∨ x = e := by
  unfold layT at h
  split at h
  · split at h
    · exact .inl h
    · split at h
      · exact .inl h
      · rcases mem_putE.1 h with w | ⟨w, _⟩
        · exact .inr w
        · exact .inl (mem_delE.1 w).1
  · rcases mem_putE.1 h with w | ⟨w, _⟩
    · exact .inr w
    · exact .inl w
theorem putT_mem {room : Nat} {ref : Bool} {k : ByteArray} {v t : Int} {x : E} (h : x ∈ (putT T room ref k v t).1) : x ∈ T ∨ x = (k, v, t, false) := by
  unfold putT at h
  split at h
  · exact .inl h
  · split at h
    · exact .inl h
    · exact layT_mem h
theorem fixT_mem {room : Nat} {ref : Bool} {k : ByteArray} {v : Int} {x : E} (h : x ∈ (fixT T room ref k v).1) : x ∈ T ∨ x = (k, v, 0, true) := by
  unfold fixT at h
  split at h
  · exact .inl h
  · exact layT_mem h
theorem dropT_mem {k : ByteArray} {x : E} (h : x ∈ (dropT T k).1) : x ∈ T := by
  unfold dropT at h
  split at h
  · exact (mem_delE.1 h).1
  · exact h
theorem lsee_run (f : FreeL orc) (h : LAt σ s tp F T age) {d : Nat} {M : List Nat} (hs : Sta d M) {p now : Int} (hp : 0 ≤ p ∧ p < 16) (hnow : 0 ≤ now ∧ now ≤ 1099511627776) (hage : 0 ≤ age ∧ age ≤ 1099511627776) (hn : 1024 < n)
    (hQ : ∀ σ' F', LAt σ' s tp F' (seeT T age (keyB d M) p now).1 age → (∀ b ∈ F', b ∈ F ∨ σ.next ≤ b) → Same σ σ' F → Q (.tuple #[.int .i64 (seeT T age (keyB d M) p now).2, .int .i64 0], σ')) :
    W (acall Try.prog gs orc (n + 14) 67 [pt s, .int .i64 (d : Int), macV M, .int .i64 p, .int .i64 now] σ) Q := by
  obtain ⟨σ1, e1, hS1, v1, hn1⟩ := AE.oneVar σ 117 (mcs M) false
  have ld6 : ∀ {τ : AHeap}, VarAt τ σ.next (mcs M) → ldCells τ σ.next 0 6 = some (mcs M) := fun v => by have := v.ldCells; rwa [mcs_len, hs.mac.len] at this
  have h1 := h.step hS1
  rw [W_start (m := 100) (keep := [15]) Try.func67 rfl (by kernel_rfl) (by kernel_rfl) (by first | rfl | assumption | exact f.h67) (by rfl)]
  simp (maxSteps := 2000000) only [B0, B1, B2, B3, B4, B5, B6, B7, Gd, extV, Nat.reduceLT, Nat.reduceEqDiff, Nat.reduceBEq, Nat.reduceAdd, Nat.reduceSub, Nat.reduceMul, ↓reduceIte, reduceCtorEq, if_true, if_false, ite_true, ite_false, Int.reduceLT, Int.reduceLE, ptr, Try.ld_117, callV_func Try.enters_129, callV_func Try.enters_126, callV_func Try.enters_130, Try.fa_137_0, Try.ld_61, callV_func Try.enters_38, allocV_zero Try.zero_69, Try.st_69, Try.fa_69_3, Try.ld_4, Try.fa_69_1, Try.ld_3, Try.fa_137_1, Try.ld_2, callV_func Try.enters_42, callV_func Try.enters_39, Value.cells,  mcs_list,  e1,  ld6 v1, rs_two (show Try.f67.results = #[.tmp 10,  .tmp 11] from rfl)]
  refine lasks_run f h1 hs hp (by omega) fun σ2 hS2 => ?_
  have h2 := h1.step hS2
  simp (maxSteps := 2000000) only [B0, B1, B2, B3, B4, B5, B6, B7, Gd, extV, Nat.reduceLT, Nat.reduceEqDiff, Nat.reduceBEq, Nat.reduceAdd, Nat.reduceSub, Nat.reduceMul, ↓reduceIte, reduceCtorEq, if_true, if_false, ite_true, ite_false, Int.reduceLT, Int.reduceLE, ptr, Try.ld_117, callV_func Try.enters_129, callV_func Try.enters_126, callV_func Try.enters_130, Try.fa_137_0, Try.ld_61, callV_func Try.enters_38, allocV_zero Try.zero_69, Try.st_69, Try.fa_69_3, Try.ld_4, Try.fa_69_1, Try.ld_3, Try.fa_137_1, Try.ld_2, callV_func Try.enters_42, callV_func Try.enters_39, Int.reduceEq,  may_run f.toFreeM hnow.1 hnow.2,  ld6 (v1.same hS2 nofun), rs_two (show Try.f67.results = #[.tmp 10,  .tmp 11] from rfl)]
  refine key_run f hs.lt hs.mac fun σ3 hS3 => ?_
  have h3 := h2.step hS3
  simp (maxSteps := 2000000) only [B0, B1, B2, B3, B4, B5, B6, B7, Gd, extV, Nat.reduceLT, Nat.reduceEqDiff, Nat.reduceBEq, Nat.reduceAdd, Nat.reduceSub, Nat.reduceMul, ↓reduceIte, reduceCtorEq, if_true, if_false, ite_true, ite_false, Int.reduceLT, Int.reduceLE, ptr, Try.ld_117, callV_func Try.enters_129, callV_func Try.enters_126, callV_func Try.enters_130, Try.fa_137_0, Try.ld_61, callV_func Try.enters_38, allocV_zero Try.zero_69, Try.st_69, Try.fa_69_3, Try.ld_4, Try.fa_69_1, Try.ld_3, Try.fa_137_1, Try.ld_2, callV_func Try.enters_42, callV_func Try.enters_39, h3.ld0, rs_two (show Try.f67.results = #[.tmp 10,  .tmp 11] from rfl)]
  refine get_run f.toFreeT h3.tab (keyB d M) fun σ4 hS4 => ?_
  have h4 := h3.step hS4
  obtain ⟨g, hgd⟩ : ∃ g, (getE (keyB d M) T).getD zE = g := ⟨_, rfl⟩
  rw [hgd]
  obtain ⟨σ5, σ6, e5, t6, hS6, v6, hn6, hS5⟩ := AE.newVar σ4 69 (encE zE) (encE g) rfl (encEOk.single g)
  have h6 := h4.step hS6
  have hS06 : Same σ σ6 [] := (((hS1.trans hS2 nofun).trans hS3 nofun).trans hS4 nofun).trans hS6 nofun
  have hv4F : σ4.next ∉ F := fun w => by have := h4.tab.low _ w; omega
  have y1 : ld σ6 σ4.next 1 = some (.int .i64 g.2.1) := v6.ld rfl
  have y3 : ld σ6 σ4.next 3 = some (.bool g.2.2.2) := v6.ld rfl
  have hwa : IntKind.i64.wrap (now + age) = now + age := wrap64 (by omega) (by omega)
  simp only [encE] at e5 t6
  cases hg : getE (keyB d M) T with
  | none =>
    have hst : (false = true) = False := eq_false (by simp)
    by_cases ha : age = 0
    · have ha0 := eq_true ha
      simp (maxSteps := 2000000) only [B0, B1, B2, B3, B4, B5, B6, B7, Gd, extV, Nat.reduceLT, Nat.reduceEqDiff, Nat.reduceBEq, Nat.reduceAdd, Nat.reduceSub, Nat.reduceMul, ↓reduceIte, reduceCtorEq, if_true, if_false, ite_true, ite_false, Int.reduceLT, Int.reduceLE, ptr, Try.ld_117, callV_func Try.enters_129, callV_func Try.enters_126, callV_func Try.enters_130, Try.fa_137_0, Try.ld_61, callV_func Try.enters_38, allocV_zero Try.zero_69, Try.st_69, Try.fa_69_3, Try.ld_4, Try.fa_69_1, Try.ld_3, Try.fa_137_1, Try.ld_2, callV_func Try.enters_42, callV_func Try.enters_39, enV,  Value.cells,  List.size_toArray,  e5,  t6,  Option.isSome_none,  h6.ld0,  h6.ld1,  ha0, rs_two (show Try.f67.results = #[.tmp 10,  .tmp 11] from rfl)]
      have key : seeT T age (keyB d M) p now = ((dropT T (keyB d M)).1, 0) := by simp [seeT, hg, ha]
      refine drop_t f.toFreeT h6.tab (keyB d M) (by omega) fun σ7 h7 hS7 => ?_
      have n6 := hS06.next
      simp (maxSteps := 2000000) only [B0, B1, B2, B3, B4, B5, B6, B7, Gd, extV, Nat.reduceLT, Nat.reduceEqDiff, Nat.reduceBEq, Nat.reduceAdd, Nat.reduceSub, Nat.reduceMul, ↓reduceIte, reduceCtorEq, if_true, if_false, ite_true, ite_false, Int.reduceLT, Int.reduceLE, ptr, Try.ld_117, callV_func Try.enters_129, callV_func Try.enters_126, callV_func Try.enters_130, Try.fa_137_0, Try.ld_61, callV_func Try.enters_38, allocV_zero Try.zero_69, Try.st_69, Try.fa_69_3, Try.ld_4, Try.fa_69_1, Try.ld_3, Try.fa_137_1, Try.ld_2, callV_func Try.enters_42, callV_func Try.enters_39, rs_two (show Try.f67.results = #[.tmp 10,  .tmp 11] from rfl)]
      have h7' := h6.call h7 (fun b hb => .inl hb) hS7 (fun e he => h.k8 e (dropT_mem he))
      have := hQ σ7 F
      simp only [key] at this
      exact this h7' (fun b hb => .inl hb) ((hS06.app hS7).mono (by simp))
    · have ha0' := eq_false ha
      have hpv : True := trivial
      simp (maxSteps := 2000000) only [B0, B1, B2, B3, B4, B5, B6, B7, Gd, extV, Nat.reduceLT, Nat.reduceEqDiff, Nat.reduceBEq, Nat.reduceAdd, Nat.reduceSub, Nat.reduceMul, ↓reduceIte, reduceCtorEq, if_true, if_false, ite_true, ite_false, Int.reduceLT, Int.reduceLE, ptr, Try.ld_117, callV_func Try.enters_129, callV_func Try.enters_126, callV_func Try.enters_130, Try.fa_137_0, Try.ld_61, callV_func Try.enters_38, allocV_zero Try.zero_69, Try.st_69, Try.fa_69_3, Try.ld_4, Try.fa_69_1, Try.ld_3, Try.fa_137_1, Try.ld_2, callV_func Try.enters_42, callV_func Try.enters_39, enV,  Value.cells,  List.size_toArray,  e5,  t6,  Option.isSome_none,  h6.ld0,  h6.ld1,  ha0', rs_two (show Try.f67.results = #[.tmp 10,  .tmp 11] from rfl)]
      refine W_float (u := 17) (e := 69) (N := 20) (ps := [(17, 3), (17, 10), (17, 12)]) Try.zero_69 (by kernel_rfl) rfl rfl rfl rfl rfl ?_
      have hSb := Same.bump σ6 20
      obtain ⟨τ, hτ⟩ : ∃ τ, (⟨σ6.next + 20, σ6.m⟩ : AHeap) = τ := ⟨_, rfl⟩
      have nτ : τ.next = σ6.next + 20 := by rw [← hτ]
      rw [hτ] at hSb ⊢
      have hτ6 := h6.step hSb
      have vτ := v6.same hSb nofun
      simp (maxSteps := 2000000) only [B0, B1, B2, B3, B4, B5, B6, B7, Gd, extV, Nat.reduceLT, Nat.reduceEqDiff, Nat.reduceBEq, Nat.reduceAdd, Nat.reduceSub, Nat.reduceMul, ↓reduceIte, reduceCtorEq, if_true, if_false, ite_true, ite_false, Int.reduceLT, Int.reduceLE, ptr, Try.ld_117, callV_func Try.enters_129, callV_func Try.enters_126, callV_func Try.enters_130, Try.fa_137_0, Try.ld_61, callV_func Try.enters_38, allocV_zero Try.zero_69, Try.st_69, Try.fa_69_3, Try.ld_4, Try.fa_69_1, Try.ld_3, Try.fa_137_1, Try.ld_2, callV_func Try.enters_42, callV_func Try.enters_39, List.take_succ_cons,  List.take_zero,  List.drop_succ_cons,  List.drop_zero,  hτ6.ld0,  hτ6.ld1,  hwa,  min_int, rs_two (show Try.f67.results = #[.tmp 10,  .tmp 11] from rfl)]
      refine put_run f.toFreeT hτ6.tab (keyB d M) p (if 1099511627776 < now + age then 1099511627776 else now + age) (by omega) fun σ7 F7 h7 hF7 hS7 => ?_
      have n7 := hS7.next
      have n6 := hS06.next
      have hsF := h6.sF
      have hb4 := v6.1
      have h7' := hτ6.call h7 hF7 hS7 (fun e he => by rcases putT_mem he with w | rfl; exact h.k8 e w; exact hs.size)
      have v7 := vτ.same hS7 (fun w => hv4F w)
      have hlo6 := h6.tab.low
      obtain ⟨σ8, t8, v8, hS8, hn8⟩ := float_var (σ := σ7) (b := σ6.next + 17) (u := 17) (by omega) (e := 69) (zs := encE zE) (vs := encE (putT T 256 false (keyB d M) p (if 1099511627776 < now + age then 1099511627776 else now + age)).2.1) rfl (encEOk.single _)
      have h8 : LAt σ8 s tp F7 _ age := h7'.same hS8 (by have := h6.obj.1; simp; omega) (fun b hb w => by
        simp at w
        subst w
        rcases hF7 _ hb with z | z
        · have := hlo6 _ z; omega
        · omega)
      have v8' := v7.same hS8 (by simp; omega)
      have hS0 : Same σ σ8 F := ((((hS06.app hSb).app hS7).app hS8)).old fun b hb => by
        simp only [List.nil_append, List.append_nil, List.mem_append, List.mem_singleton] at hb
        rcases hb with hb | hb
        · exact .inl hb
        · exact .inr (by omega)
      have hF0 : ∀ b ∈ F7, b ∈ F ∨ σ.next ≤ b := fun b hb => by rcases hF7 b hb with z | z; exact .inl z; exact .inr (by omega)
      have z1 : ld σ8 σ4.next 1 = some (.int .i64 g.2.1) := v8'.ld rfl
      have u0 := h7'.ld0
      have u1 := h7'.ld1
      simp only [encE] at t8
      simp (maxSteps := 2000000) only [B0, B1, B2, B3, B4, B5, B6, B7, Gd, extV, Nat.reduceLT, Nat.reduceEqDiff, Nat.reduceBEq, Nat.reduceAdd, Nat.reduceSub, Nat.reduceMul, ↓reduceIte, reduceCtorEq, if_true, if_false, ite_true, ite_false, Int.reduceLT, Int.reduceLE, ptr, Try.ld_117, callV_func Try.enters_129, callV_func Try.enters_126, callV_func Try.enters_130, Try.fa_137_0, Try.ld_61, callV_func Try.enters_38, allocV_zero Try.zero_69, Try.st_69, Try.fa_69_3, Try.ld_4, Try.fa_69_1, Try.ld_3, Try.fa_137_1, Try.ld_2, callV_func Try.enters_42, callV_func Try.enters_39, KFl_mk,  enV,  Value.cells,  List.size_toArray,  t8,  hτ6.ld0,  hτ6.ld1,  u0,  u1,  hwa,  min_int, rs_two (show Try.f67.results = #[.tmp 10,  .tmp 11] from rfl)]
      by_cases hr : (putT T 256 false (keyB d M) p (if 1099511627776 < now + age then 1099511627776 else now + age)).2.2 = 0
      · have hr' := eq_true hr
        simp (maxSteps := 2000000) only [B0, B1, B2, B3, B4, B5, B6, B7, Gd, extV, Nat.reduceLT, Nat.reduceEqDiff, Nat.reduceBEq, Nat.reduceAdd, Nat.reduceSub, Nat.reduceMul, ↓reduceIte, reduceCtorEq, if_true, if_false, ite_true, ite_false, Int.reduceLT, Int.reduceLE, ptr, Try.ld_117, callV_func Try.enters_129, callV_func Try.enters_126, callV_func Try.enters_130, Try.fa_137_0, Try.ld_61, callV_func Try.enters_38, allocV_zero Try.zero_69, Try.st_69, Try.fa_69_3, Try.ld_4, Try.fa_69_1, Try.ld_3, Try.fa_137_1, Try.ld_2, callV_func Try.enters_42, callV_func Try.enters_39, hr',  z1,  y1, rs_two (show Try.f67.results = #[.tmp 10,  .tmp 11] from rfl)]
        have := hQ σ8 F7
        simp only [seeT, hg, Option.map_none, Option.map_some, Option.getD_none, Option.getD_some, Bool.false_eq_true, if_false, hst, ha0', hr', if_true, hpv] at this
        exact this h8 hF0 hS0
      · have hr' := eq_false hr
        simp (maxSteps := 2000000) only [B0, B1, B2, B3, B4, B5, B6, B7, Gd, extV, Nat.reduceLT, Nat.reduceEqDiff, Nat.reduceBEq, Nat.reduceAdd, Nat.reduceSub, Nat.reduceMul, ↓reduceIte, reduceCtorEq, if_true, if_false, ite_true, ite_false, Int.reduceLT, Int.reduceLE, ptr, Try.ld_117, callV_func Try.enters_129, callV_func Try.enters_126, callV_func Try.enters_130, Try.fa_137_0, Try.ld_61, callV_func Try.enters_38, allocV_zero Try.zero_69, Try.st_69, Try.fa_69_3, Try.ld_4, Try.fa_69_1, Try.ld_3, Try.fa_137_1, Try.ld_2, callV_func Try.enters_42, callV_func Try.enters_39, hr',  z1, rs_two (show Try.f67.results = #[.tmp 10,  .tmp 11] from rfl)]
        have := hQ σ8 F7
        simp only [seeT, hg, Option.map_none, Option.map_some, Option.getD_none, Option.getD_some, Bool.false_eq_true, if_false, hst, ha0', hr'] at this
        exact this h8 hF0 hS0
  | some e =>
    have hge : e = g := by rw [← hgd, hg]; rfl
    subst hge
    cases hst : e.2.2.2 with
    | true =>
      rw [hst] at y3

      by_cases hpv : e.2.1 = p
      · have hpv' := eq_true hpv
        simp (maxSteps := 2000000) only [B0, B1, B2, B3, B4, B5, B6, B7, Gd, extV, Nat.reduceLT, Nat.reduceEqDiff, Nat.reduceBEq, Nat.reduceAdd, Nat.reduceSub, Nat.reduceMul, ↓reduceIte, reduceCtorEq, if_true, if_false, ite_true, ite_false, Int.reduceLT, Int.reduceLE, ptr, Try.ld_117, callV_func Try.enters_129, callV_func Try.enters_126, callV_func Try.enters_130, Try.fa_137_0, Try.ld_61, callV_func Try.enters_38, allocV_zero Try.zero_69, Try.st_69, Try.fa_69_3, Try.ld_4, Try.fa_69_1, Try.ld_3, Try.fa_137_1, Try.ld_2, callV_func Try.enters_42, callV_func Try.enters_39, enV,  Value.cells,  List.size_toArray,  e5,  t6,  Option.isSome_some,  y1,  y3,  hpv', rs_two (show Try.f67.results = #[.tmp 10,  .tmp 11] from rfl)]
        have key : seeT T age (keyB d M) p now = (T, 0) := by simp [seeT, hg, hst, hpv]
        have := hQ σ6 F
        simp only [key] at this
        exact this h6 (fun b hb => .inl hb) (hS06.mono (by simp))
      · have hpv' := eq_false hpv
        simp (maxSteps := 2000000) only [B0, B1, B2, B3, B4, B5, B6, B7, Gd, extV, Nat.reduceLT, Nat.reduceEqDiff, Nat.reduceBEq, Nat.reduceAdd, Nat.reduceSub, Nat.reduceMul, ↓reduceIte, reduceCtorEq, if_true, if_false, ite_true, ite_false, Int.reduceLT, Int.reduceLE, ptr, Try.ld_117, callV_func Try.enters_129, callV_func Try.enters_126, callV_func Try.enters_130, Try.fa_137_0, Try.ld_61, callV_func Try.enters_38, allocV_zero Try.zero_69, Try.st_69, Try.fa_69_3, Try.ld_4, Try.fa_69_1, Try.ld_3, Try.fa_137_1, Try.ld_2, callV_func Try.enters_42, callV_func Try.enters_39, enV,  Value.cells,  List.size_toArray,  e5,  t6,  Option.isSome_some,  y1,  y3,  hpv', rs_two (show Try.f67.results = #[.tmp 10,  .tmp 11] from rfl)]
        have key : seeT T age (keyB d M) p now = (T, 3) := by simp [seeT, hg, hst, hpv]
        have := hQ σ6 F
        simp only [key] at this
        exact this h6 (fun b hb => .inl hb) (hS06.mono (by simp))
    | false =>
      rw [hst] at y3
      by_cases ha : age = 0
      · have ha0 := eq_true ha
        simp (maxSteps := 2000000) only [B0, B1, B2, B3, B4, B5, B6, B7, Gd, extV, Nat.reduceLT, Nat.reduceEqDiff, Nat.reduceBEq, Nat.reduceAdd, Nat.reduceSub, Nat.reduceMul, ↓reduceIte, reduceCtorEq, if_true, if_false, ite_true, ite_false, Int.reduceLT, Int.reduceLE, ptr, Try.ld_117, callV_func Try.enters_129, callV_func Try.enters_126, callV_func Try.enters_130, Try.fa_137_0, Try.ld_61, callV_func Try.enters_38, allocV_zero Try.zero_69, Try.st_69, Try.fa_69_3, Try.ld_4, Try.fa_69_1, Try.ld_3, Try.fa_137_1, Try.ld_2, callV_func Try.enters_42, callV_func Try.enters_39, enV,  Value.cells,  List.size_toArray,  e5,  t6,  Option.isSome_some,  y1,  y3,  h6.ld0,  h6.ld1,  ha0, rs_two (show Try.f67.results = #[.tmp 10,  .tmp 11] from rfl)]
        have key : seeT T age (keyB d M) p now = ((dropT T (keyB d M)).1, 0) := by simp [seeT, hg, hst, ha]
        refine drop_t f.toFreeT h6.tab (keyB d M) (by omega) fun σ7 h7 hS7 => ?_
        have n6 := hS06.next
        simp (maxSteps := 2000000) only [B0, B1, B2, B3, B4, B5, B6, B7, Gd, extV, Nat.reduceLT, Nat.reduceEqDiff, Nat.reduceBEq, Nat.reduceAdd, Nat.reduceSub, Nat.reduceMul, ↓reduceIte, reduceCtorEq, if_true, if_false, ite_true, ite_false, Int.reduceLT, Int.reduceLE, ptr, Try.ld_117, callV_func Try.enters_129, callV_func Try.enters_126, callV_func Try.enters_130, Try.fa_137_0, Try.ld_61, callV_func Try.enters_38, allocV_zero Try.zero_69, Try.st_69, Try.fa_69_3, Try.ld_4, Try.fa_69_1, Try.ld_3, Try.fa_137_1, Try.ld_2, callV_func Try.enters_42, callV_func Try.enters_39, rs_two (show Try.f67.results = #[.tmp 10,  .tmp 11] from rfl)]
        have h7' := h6.call h7 (fun b hb => .inl hb) hS7 (fun e he => h.k8 e (dropT_mem he))
        have := hQ σ7 F
        simp only [key] at this
        exact this h7' (fun b hb => .inl hb) ((hS06.app hS7).mono (by simp))
      · have ha0' := eq_false ha
        simp (maxSteps := 2000000) only [B0, B1, B2, B3, B4, B5, B6, B7, Gd, extV, Nat.reduceLT, Nat.reduceEqDiff, Nat.reduceBEq, Nat.reduceAdd, Nat.reduceSub, Nat.reduceMul, ↓reduceIte, reduceCtorEq, if_true, if_false, ite_true, ite_false, Int.reduceLT, Int.reduceLE, ptr, Try.ld_117, callV_func Try.enters_129, callV_func Try.enters_126, callV_func Try.enters_130, Try.fa_137_0, Try.ld_61, callV_func Try.enters_38, allocV_zero Try.zero_69, Try.st_69, Try.fa_69_3, Try.ld_4, Try.fa_69_1, Try.ld_3, Try.fa_137_1, Try.ld_2, callV_func Try.enters_42, callV_func Try.enters_39, enV,  Value.cells,  List.size_toArray,  e5,  t6,  Option.isSome_some,  y1,  y3,  h6.ld0,  h6.ld1,  ha0', rs_two (show Try.f67.results = #[.tmp 10,  .tmp 11] from rfl)]
        by_cases hpv0 : e.2.1 = p
        · have hpv := eq_true hpv0
          refine W_float (u := 17) (e := 69) (N := 20) (ps := [(17, 3), (17, 10), (17, 12)]) Try.zero_69 (by kernel_rfl) rfl rfl rfl rfl rfl ?_
          have hSb := Same.bump σ6 20
          obtain ⟨τ, hτ⟩ : ∃ τ, (⟨σ6.next + 20, σ6.m⟩ : AHeap) = τ := ⟨_, rfl⟩
          have nτ : τ.next = σ6.next + 20 := by rw [← hτ]
          rw [hτ] at hSb ⊢
          have hτ6 := h6.step hSb
          have vτ := v6.same hSb nofun
          simp (maxSteps := 2000000) only [B0, B1, B2, B3, B4, B5, B6, B7, Gd, extV, Nat.reduceLT, Nat.reduceEqDiff, Nat.reduceBEq, Nat.reduceAdd, Nat.reduceSub, Nat.reduceMul, ↓reduceIte, reduceCtorEq, if_true, if_false, ite_true, ite_false, Int.reduceLT, Int.reduceLE, ptr, Try.ld_117, callV_func Try.enters_129, callV_func Try.enters_126, callV_func Try.enters_130, Try.fa_137_0, Try.ld_61, callV_func Try.enters_38, allocV_zero Try.zero_69, Try.st_69, Try.fa_69_3, Try.ld_4, Try.fa_69_1, Try.ld_3, Try.fa_137_1, Try.ld_2, callV_func Try.enters_42, callV_func Try.enters_39, List.take_succ_cons,  List.take_zero,  List.drop_succ_cons,  List.drop_zero,  hτ6.ld0,  hτ6.ld1,  hwa,  min_int, rs_two (show Try.f67.results = #[.tmp 10,  .tmp 11] from rfl)]
          refine put_run f.toFreeT hτ6.tab (keyB d M) p (if 1099511627776 < now + age then 1099511627776 else now + age) (by omega) fun σ7 F7 h7 hF7 hS7 => ?_
          have n7 := hS7.next
          have n6 := hS06.next
          have hsF := h6.sF
          have hb4 := v6.1
          have h7' := hτ6.call h7 hF7 hS7 (fun e he => by rcases putT_mem he with w | rfl; exact h.k8 e w; exact hs.size)
          have v7 := vτ.same hS7 (fun w => hv4F w)
          have hlo6 := h6.tab.low
          obtain ⟨σ8, t8, v8, hS8, hn8⟩ := float_var (σ := σ7) (b := σ6.next + 17) (u := 17) (by omega) (e := 69) (zs := encE zE) (vs := encE (putT T 256 false (keyB d M) p (if 1099511627776 < now + age then 1099511627776 else now + age)).2.1) rfl (encEOk.single _)
          have h8 : LAt σ8 s tp F7 _ age := h7'.same hS8 (by have := h6.obj.1; simp; omega) (fun b hb w => by
            simp at w
            subst w
            rcases hF7 _ hb with z | z
            · have := hlo6 _ z; omega
            · omega)
          have v8' := v7.same hS8 (by simp; omega)
          have hS0 : Same σ σ8 F := ((((hS06.app hSb).app hS7).app hS8)).old fun b hb => by
            simp only [List.nil_append, List.append_nil, List.mem_append, List.mem_singleton] at hb
            rcases hb with hb | hb
            · exact .inl hb
            · exact .inr (by omega)
          have hF0 : ∀ b ∈ F7, b ∈ F ∨ σ.next ≤ b := fun b hb => by rcases hF7 b hb with z | z; exact .inl z; exact .inr (by omega)
          have z1 : ld σ8 σ4.next 1 = some (.int .i64 e.2.1) := v8'.ld rfl
          have u0 := h7'.ld0
          have u1 := h7'.ld1
          simp only [encE] at t8
          simp (maxSteps := 2000000) only [B0, B1, B2, B3, B4, B5, B6, B7, Gd, extV, Nat.reduceLT, Nat.reduceEqDiff, Nat.reduceBEq, Nat.reduceAdd, Nat.reduceSub, Nat.reduceMul, ↓reduceIte, reduceCtorEq, if_true, if_false, ite_true, ite_false, Int.reduceLT, Int.reduceLE, ptr, Try.ld_117, callV_func Try.enters_129, callV_func Try.enters_126, callV_func Try.enters_130, Try.fa_137_0, Try.ld_61, callV_func Try.enters_38, allocV_zero Try.zero_69, Try.st_69, Try.fa_69_3, Try.ld_4, Try.fa_69_1, Try.ld_3, Try.fa_137_1, Try.ld_2, callV_func Try.enters_42, callV_func Try.enters_39, KFl_mk,  enV,  Value.cells,  List.size_toArray,  t8,  hτ6.ld0,  hτ6.ld1,  u0,  u1,  hwa,  min_int, rs_two (show Try.f67.results = #[.tmp 10,  .tmp 11] from rfl)]
          by_cases hr : (putT T 256 false (keyB d M) p (if 1099511627776 < now + age then 1099511627776 else now + age)).2.2 = 0
          · have hr' := eq_true hr
            simp (maxSteps := 2000000) only [B0, B1, B2, B3, B4, B5, B6, B7, Gd, extV, Nat.reduceLT, Nat.reduceEqDiff, Nat.reduceBEq, Nat.reduceAdd, Nat.reduceSub, Nat.reduceMul, ↓reduceIte, reduceCtorEq, if_true, if_false, ite_true, ite_false, Int.reduceLT, Int.reduceLE, ptr, Try.ld_117, callV_func Try.enters_129, callV_func Try.enters_126, callV_func Try.enters_130, Try.fa_137_0, Try.ld_61, callV_func Try.enters_38, allocV_zero Try.zero_69, Try.st_69, Try.fa_69_3, Try.ld_4, Try.fa_69_1, Try.ld_3, Try.fa_137_1, Try.ld_2, callV_func Try.enters_42, callV_func Try.enters_39, hr',  z1,  hpv, rs_two (show Try.f67.results = #[.tmp 10,  .tmp 11] from rfl)]
            have := hQ σ8 F7
            simp only [seeT, hg, Option.map_none, Option.map_some, Option.getD_none, Option.getD_some, Bool.false_eq_true, if_false, hst, ha0', hr', if_true, hpv] at this
            exact this h8 hF0 hS0
          · have hr' := eq_false hr
            simp (maxSteps := 2000000) only [B0, B1, B2, B3, B4, B5, B6, B7, Gd, extV, Nat.reduceLT, Nat.reduceEqDiff, Nat.reduceBEq, Nat.reduceAdd, Nat.reduceSub, Nat.reduceMul, ↓reduceIte, reduceCtorEq, if_true, if_false, ite_true, ite_false, Int.reduceLT, Int.reduceLE, ptr, Try.ld_117, callV_func Try.enters_129, callV_func Try.enters_126, callV_func Try.enters_130, Try.fa_137_0, Try.ld_61, callV_func Try.enters_38, allocV_zero Try.zero_69, Try.st_69, Try.fa_69_3, Try.ld_4, Try.fa_69_1, Try.ld_3, Try.fa_137_1, Try.ld_2, callV_func Try.enters_42, callV_func Try.enters_39, hr',  z1, rs_two (show Try.f67.results = #[.tmp 10,  .tmp 11] from rfl)]
            have := hQ σ8 F7
            simp only [seeT, hg, Option.map_none, Option.map_some, Option.getD_none, Option.getD_some, Bool.false_eq_true, if_false, hst, ha0', hr'] at this
            exact this h8 hF0 hS0
        · have hpv := eq_false hpv0
          refine W_float (u := 17) (e := 69) (N := 20) (ps := [(17, 3), (17, 10), (17, 12)]) Try.zero_69 (by kernel_rfl) rfl rfl rfl rfl rfl ?_
          have hSb := Same.bump σ6 20
          obtain ⟨τ, hτ⟩ : ∃ τ, (⟨σ6.next + 20, σ6.m⟩ : AHeap) = τ := ⟨_, rfl⟩
          have nτ : τ.next = σ6.next + 20 := by rw [← hτ]
          rw [hτ] at hSb ⊢
          have hτ6 := h6.step hSb
          have vτ := v6.same hSb nofun
          simp (maxSteps := 2000000) only [B0, B1, B2, B3, B4, B5, B6, B7, Gd, extV, Nat.reduceLT, Nat.reduceEqDiff, Nat.reduceBEq, Nat.reduceAdd, Nat.reduceSub, Nat.reduceMul, ↓reduceIte, reduceCtorEq, if_true, if_false, ite_true, ite_false, Int.reduceLT, Int.reduceLE, ptr, Try.ld_117, callV_func Try.enters_129, callV_func Try.enters_126, callV_func Try.enters_130, Try.fa_137_0, Try.ld_61, callV_func Try.enters_38, allocV_zero Try.zero_69, Try.st_69, Try.fa_69_3, Try.ld_4, Try.fa_69_1, Try.ld_3, Try.fa_137_1, Try.ld_2, callV_func Try.enters_42, callV_func Try.enters_39, List.take_succ_cons,  List.take_zero,  List.drop_succ_cons,  List.drop_zero,  hτ6.ld0,  hτ6.ld1,  hwa,  min_int, rs_two (show Try.f67.results = #[.tmp 10,  .tmp 11] from rfl)]
          refine put_run f.toFreeT hτ6.tab (keyB d M) p (if 1099511627776 < now + age then 1099511627776 else now + age) (by omega) fun σ7 F7 h7 hF7 hS7 => ?_
          have n7 := hS7.next
          have n6 := hS06.next
          have hsF := h6.sF
          have hb4 := v6.1
          have h7' := hτ6.call h7 hF7 hS7 (fun e he => by rcases putT_mem he with w | rfl; exact h.k8 e w; exact hs.size)
          have v7 := vτ.same hS7 (fun w => hv4F w)
          have hlo6 := h6.tab.low
          obtain ⟨σ8, t8, v8, hS8, hn8⟩ := float_var (σ := σ7) (b := σ6.next + 17) (u := 17) (by omega) (e := 69) (zs := encE zE) (vs := encE (putT T 256 false (keyB d M) p (if 1099511627776 < now + age then 1099511627776 else now + age)).2.1) rfl (encEOk.single _)
          have h8 : LAt σ8 s tp F7 _ age := h7'.same hS8 (by have := h6.obj.1; simp; omega) (fun b hb w => by
            simp at w
            subst w
            rcases hF7 _ hb with z | z
            · have := hlo6 _ z; omega
            · omega)
          have v8' := v7.same hS8 (by simp; omega)
          have hS0 : Same σ σ8 F := ((((hS06.app hSb).app hS7).app hS8)).old fun b hb => by
            simp only [List.nil_append, List.append_nil, List.mem_append, List.mem_singleton] at hb
            rcases hb with hb | hb
            · exact .inl hb
            · exact .inr (by omega)
          have hF0 : ∀ b ∈ F7, b ∈ F ∨ σ.next ≤ b := fun b hb => by rcases hF7 b hb with z | z; exact .inl z; exact .inr (by omega)
          have z1 : ld σ8 σ4.next 1 = some (.int .i64 e.2.1) := v8'.ld rfl
          have u0 := h7'.ld0
          have u1 := h7'.ld1
          simp only [encE] at t8
          simp (maxSteps := 2000000) only [B0, B1, B2, B3, B4, B5, B6, B7, Gd, extV, Nat.reduceLT, Nat.reduceEqDiff, Nat.reduceBEq, Nat.reduceAdd, Nat.reduceSub, Nat.reduceMul, ↓reduceIte, reduceCtorEq, if_true, if_false, ite_true, ite_false, Int.reduceLT, Int.reduceLE, ptr, Try.ld_117, callV_func Try.enters_129, callV_func Try.enters_126, callV_func Try.enters_130, Try.fa_137_0, Try.ld_61, callV_func Try.enters_38, allocV_zero Try.zero_69, Try.st_69, Try.fa_69_3, Try.ld_4, Try.fa_69_1, Try.ld_3, Try.fa_137_1, Try.ld_2, callV_func Try.enters_42, callV_func Try.enters_39, KFl_mk,  enV,  Value.cells,  List.size_toArray,  t8,  hτ6.ld0,  hτ6.ld1,  u0,  u1,  hwa,  min_int, rs_two (show Try.f67.results = #[.tmp 10,  .tmp 11] from rfl)]
          by_cases hr : (putT T 256 false (keyB d M) p (if 1099511627776 < now + age then 1099511627776 else now + age)).2.2 = 0
          · have hr' := eq_true hr
            simp (maxSteps := 2000000) only [B0, B1, B2, B3, B4, B5, B6, B7, Gd, extV, Nat.reduceLT, Nat.reduceEqDiff, Nat.reduceBEq, Nat.reduceAdd, Nat.reduceSub, Nat.reduceMul, ↓reduceIte, reduceCtorEq, if_true, if_false, ite_true, ite_false, Int.reduceLT, Int.reduceLE, ptr, Try.ld_117, callV_func Try.enters_129, callV_func Try.enters_126, callV_func Try.enters_130, Try.fa_137_0, Try.ld_61, callV_func Try.enters_38, allocV_zero Try.zero_69, Try.st_69, Try.fa_69_3, Try.ld_4, Try.fa_69_1, Try.ld_3, Try.fa_137_1, Try.ld_2, callV_func Try.enters_42, callV_func Try.enters_39, hr',  z1,  hpv, rs_two (show Try.f67.results = #[.tmp 10,  .tmp 11] from rfl)]
            have := hQ σ8 F7
            simp only [seeT, hg, Option.map_none, Option.map_some, Option.getD_none, Option.getD_some, Bool.false_eq_true, if_false, hst, ha0', hr', if_true, hpv] at this
            exact this h8 hF0 hS0
          · have hr' := eq_false hr
            simp (maxSteps := 2000000) only [B0, B1, B2, B3, B4, B5, B6, B7, Gd, extV, Nat.reduceLT, Nat.reduceEqDiff, Nat.reduceBEq, Nat.reduceAdd, Nat.reduceSub, Nat.reduceMul, ↓reduceIte, reduceCtorEq, if_true, if_false, ite_true, ite_false, Int.reduceLT, Int.reduceLE, ptr, Try.ld_117, callV_func Try.enters_129, callV_func Try.enters_126, callV_func Try.enters_130, Try.fa_137_0, Try.ld_61, callV_func Try.enters_38, allocV_zero Try.zero_69, Try.st_69, Try.fa_69_3, Try.ld_4, Try.fa_69_1, Try.ld_3, Try.fa_137_1, Try.ld_2, callV_func Try.enters_42, callV_func Try.enters_39, hr',  z1, rs_two (show Try.f67.results = #[.tmp 10,  .tmp 11] from rfl)]
            have := hQ σ8 F7
            simp only [seeT, hg, Option.map_none, Option.map_some, Option.getD_none, Option.getD_some, Bool.false_eq_true, if_false, hst, ha0', hr'] at this
            exact this h8 hF0 hS0
end Go.Proofs.Ytongccpmdndcgaa.Lrn
end
/- Stations in memory: Fix, Drop, Flush; one's own stations through calls; the law's example. -/
section
set_option linter.all false
namespace Go.Proofs.Ytongccpmdndcgaa.Lrn
open Go Go.AE Go.Proofs.Ytongccpmdndcgaa.Alm Go.Proofs.Ytongccpmdndcgaa.Tab Go.Sort Go.Proofs
set_option maxRecDepth 100000
set_option maxHeartbeats 2000000
attribute [local irreducible] Go.AE.Tr.put Go.AE.Tr.get
variable {gs : List Nat} {orc : Orc} {n : Nat} {σ : AHeap} {Q : Value × AHeap → Prop}
variable {s tp : Nat} {F : List Nat} {T : List E} {age : Int}

theorem lfix_run (f : FreeL orc) (h : LAt σ s tp F T age) {d : Nat} {M : List Nat} (hs : Sta d M) {p : Int} (hp : 0 ≤ p ∧ p < 16) (hn : 1024 < n)
    (hQ : ∀ σ' F', LAt σ' s tp F' (fixT T 256 false (keyB d M) p).1 age → (∀ b ∈ F', b ∈ F ∨ σ.next ≤ b) → Same σ σ' F → Q (.int .i64 (fixT T 256 false (keyB d M) p).2.2, σ')) :
    W (acall Try.prog gs orc (n + 14) 74 [pt s, .int .i64 (d : Int), macV M, .int .i64 p] σ) Q := by
  obtain ⟨σ1, e1, hS1, v1, hn1⟩ := AE.oneVar σ 117 (mcs M) false
  have ld6 : ∀ {τ : AHeap}, VarAt τ σ.next (mcs M) → ldCells τ σ.next 0 6 = some (mcs M) := fun v => by have := v.ldCells; rwa [mcs_len, hs.mac.len] at this
  have h1 := h.step hS1
  rw [W_start (m := 33) (keep := [4]) Try.func74 rfl (by kernel_rfl) (by kernel_rfl) (by first | rfl | assumption | exact f.h74) (by rfl)]
  simp (maxSteps := 2000000) only [B0, B1, B2, B3, B4, B5, B6, B7, Gd, extV, Nat.reduceLT, Nat.reduceEqDiff, Nat.reduceBEq, Nat.reduceAdd, Nat.reduceSub, Nat.reduceMul, ↓reduceIte, reduceCtorEq, if_true, if_false, ite_true, ite_false, Int.reduceLT, Int.reduceLE, ptr, Try.ld_117, callV_func Try.enters_129, Try.fa_137_0, Try.ld_61, callV_func Try.enters_130, callV_func Try.enters_40, allocV_zero Try.zero_69, Try.st_69, Value.cells,  mcs_list,  e1,  ld6 v1, rs_tmp (show Try.f74.results = #[.tmp 8] from rfl)]
  refine lasks_run f h1 hs hp (by omega) fun σ6 hS2 => ?_
  have h6 := h1.step hS2
  have w6 := v1.same hS2 nofun
  have hS06 := hS1.trans hS2 nofun
  simp (maxSteps := 2000000) only [B0, B1, B2, B3, B4, B5, B6, B7, Gd, extV, Nat.reduceLT, Nat.reduceEqDiff, Nat.reduceBEq, Nat.reduceAdd, Nat.reduceSub, Nat.reduceMul, ↓reduceIte, reduceCtorEq, if_true, if_false, ite_true, ite_false, Int.reduceLT, Int.reduceLE, ptr, Try.ld_117, callV_func Try.enters_129, Try.fa_137_0, Try.ld_61, callV_func Try.enters_130, callV_func Try.enters_40, allocV_zero Try.zero_69, Try.st_69, Int.reduceEq, rs_tmp (show Try.f74.results = #[.tmp 8] from rfl)]
  refine W_float (u := 12) (e := 69) (N := 15) (ps := [(6, 3), (12, 3), (12, 5)]) Try.zero_69 (by kernel_rfl) rfl rfl rfl rfl rfl ?_
  have hSb := Same.bump σ6 15
  obtain ⟨τ, hτ⟩ : ∃ τ, (⟨σ6.next + 15, σ6.m⟩ : AHeap) = τ := ⟨_, rfl⟩
  have nτ : τ.next = σ6.next + 15 := by rw [← hτ]
  rw [hτ] at hSb ⊢
  have hτ6 := h6.step hSb
  have wτ := w6.same hSb nofun
  simp (maxSteps := 2000000) only [B0, B1, B2, B3, B4, B5, B6, B7, Gd, extV, Nat.reduceLT, Nat.reduceEqDiff, Nat.reduceBEq, Nat.reduceAdd, Nat.reduceSub, Nat.reduceMul, ↓reduceIte, reduceCtorEq, if_true, if_false, ite_true, ite_false, Int.reduceLT, Int.reduceLE, ptr, Try.ld_117, callV_func Try.enters_129, Try.fa_137_0, Try.ld_61, callV_func Try.enters_130, callV_func Try.enters_40, allocV_zero Try.zero_69, Try.st_69, List.take_succ_cons,  List.take_zero,  List.drop_succ_cons,  List.drop_zero,  hτ6.ld0,  ld6 wτ, rs_tmp (show Try.f74.results = #[.tmp 8] from rfl)]
  refine key_run f hs.lt hs.mac fun σ5 hS5 => ?_
  have h5 := hτ6.step hS5
  have w5 := wτ.same hS5 nofun
  simp (maxSteps := 2000000) only [B0, B1, B2, B3, B4, B5, B6, B7, Gd, extV, Nat.reduceLT, Nat.reduceEqDiff, Nat.reduceBEq, Nat.reduceAdd, Nat.reduceSub, Nat.reduceMul, ↓reduceIte, reduceCtorEq, if_true, if_false, ite_true, ite_false, Int.reduceLT, Int.reduceLE, ptr, Try.ld_117, callV_func Try.enters_129, Try.fa_137_0, Try.ld_61, callV_func Try.enters_130, callV_func Try.enters_40, allocV_zero Try.zero_69, Try.st_69, hτ6.ld0,  h5.ld0,  ld6 wτ,  ld6 w5, rs_tmp (show Try.f74.results = #[.tmp 8] from rfl)]
  refine fix_run f.toFreeT h5.tab (keyB d M) p (by omega) fun σ7 F7 h7 hF7 hS7 => ?_
  have n5 := hS5.next
  have n7 := hS7.next
  have n6 := hS06.next
  have h7' := h5.call h7 hF7 hS7 (fun e he => by rcases fixT_mem he with w | rfl; exact h.k8 e w; exact hs.size)
  have hlo6 := h6.tab.low
  have w7 := w5.same hS7 (fun w => by have := h.tab.low _ w; omega)
  obtain ⟨σ8, t8, v8, hS8, hn8⟩ := float_var (σ := σ7) (b := σ6.next + 12) (u := 12) (by omega) (e := 69) (zs := encE zE) (vs := encE (fixT T 256 false (keyB d M) p).2.1) rfl (encEOk.single _)
  have h8 : LAt σ8 s tp F7 _ age := h7'.same hS8 (by have := h6.obj.1; simp; omega) (fun b hb w => by
    simp at w
    subst w
    rcases hF7 _ hb with z | z
    · have := hlo6 _ z; omega
    · omega)
  have hS0 : Same σ σ8 F := (((((hS06.app hSb).app hS5).app hS7).app hS8)).old fun b hb => by
    simp only [List.nil_append, List.append_nil, List.mem_append, List.mem_singleton] at hb
    rcases hb with hb | hb
    · exact .inl hb
    · exact .inr (by omega)
  simp only [encE] at t8
  simp (maxSteps := 2000000) only [B0, B1, B2, B3, B4, B5, B6, B7, Gd, extV, Nat.reduceLT, Nat.reduceEqDiff, Nat.reduceBEq, Nat.reduceAdd, Nat.reduceSub, Nat.reduceMul, ↓reduceIte, reduceCtorEq, if_true, if_false, ite_true, ite_false, Int.reduceLT, Int.reduceLE, ptr, Try.ld_117, callV_func Try.enters_129, Try.fa_137_0, Try.ld_61, callV_func Try.enters_130, callV_func Try.enters_40, allocV_zero Try.zero_69, Try.st_69, KFl_mk,  enV,  Value.cells,  List.size_toArray,  t8,  hτ6.ld0,  h5.ld0,  h7'.ld0,  ld6 wτ,  ld6 w5,  ld6 w7,  same_mac, rs_tmp (show Try.f74.results = #[.tmp 8] from rfl)]
  exact hQ σ8 F7 h8 (fun b hb => by rcases hF7 b hb with z | z; exact .inl z; exact .inr (by omega)) hS0
/-- Stations that were made behind σ. -/
structure LO (σ σ' : AHeap) (s tp : Nat) (F : List Nat) (T : List E) (age : Int) : Prop where
  h : LAt σ' s tp F T age
  low : ∀ b ∈ F, σ.next ≤ b
  slow : σ.next ≤ s
  same : Same σ σ' []
theorem LO.step {σ1 σ2 : AHeap} (w : LO σ σ1 s tp F T age) (hS : Same σ1 σ2 []) : LO σ σ2 s tp F T age := ⟨w.h.step hS, w.low, w.slow, w.same.trans hS nofun⟩
theorem LO.call {σ1 σ2 : AHeap} {F' : List Nat} {T' : List E} (w : LO σ σ1 s tp F T age) (h : LAt σ2 s tp F' T' age) (hF : ∀ b ∈ F', b ∈ F ∨ σ1.next ≤ b) (hS : Same σ1 σ2 F) : LO σ σ2 s tp F' T' age :=
  ⟨h, fun b hb => by rcases hF b hb with z | z; exact w.low b z; have := w.same.next; omega, w.slow, (w.same.app hS).old fun b hb => by simp at hb; exact .inr (w.low b hb)⟩
/-- A variable beside them. -/
structure VL (σ' : AHeap) (s : Nat) (F : List Nat) (b : Nat) (vs : List Value) : Prop where
  v : VarAt σ' b vs
  nF : b ∉ F
  ns : b ≠ s
theorem VL.call {σ1 σ2 : AHeap} {F' : List Nat} {b : Nat} {vs : List Value} (w : VL σ1 s F b vs) (hF : ∀ b ∈ F', b ∈ F ∨ σ1.next ≤ b) (hS : Same σ1 σ2 F) : VL σ2 s F' b vs :=
  ⟨w.v.same hS w.nF, fun q => by rcases hF b q with z | z; exact w.nF z; have := w.v.1; omega, w.ns⟩
theorem VL.step {σ1 σ2 : AHeap} {b : Nat} {vs : List Value} (w : VL σ1 s F b vs) (hS : Same σ1 σ2 []) : VL σ2 s F b vs := ⟨w.v.same hS nofun, w.nF, w.ns⟩
theorem LO.var {σ1 : AHeap} (w : LO σ σ1 s tp F T age) (t : TypeId) (zs vs : List Value) (hl : vs.length = zs.length) (hs : ∀ v ∈ vs, single v = true) :
    ∃ σ2 σ3, (newCells σ1 t zs).2 = σ2 ∧ stCells σ2 σ1.next 0 vs = some σ3 ∧ LO σ σ3 s tp F T age ∧ VL σ3 s F σ1.next vs ∧ Same σ1 σ3 [] ∧ σ3.next = σ1.next + 1 := by
  obtain ⟨σ2, σ3, e2, t3, hS, hv, hn, _⟩ := AE.newVar σ1 t zs vs hl hs
  exact ⟨σ2, σ3, e2, t3, w.step hS, ⟨hv, fun q => by have := w.h.tab.low _ q; omega, by have := w.h.obj.1; omega⟩, hS, hn⟩
theorem sta_of {d c : Nat} (hd : okDom (d : Int)) (hc : c < 256) : Sta d [2, 0, 0, 0, 0, c] := ⟨⟨rfl, by intro b hb; simp at hb; omega⟩, hd, ⟨2, rfl, rfl⟩, by simp⟩
abbrev mk : ByteArray := keyB 7 [2, 0, 0, 0, 0, 1]
theorem lw1 : seeT [] 10 mk 1 0 = ([(mk, 1, 10, false)], 1) := by decide
theorem lw2 : seeT [(mk, 1, 10, false)] 10 mk 2 5 = ([(mk, 2, 15, false)], 2) := by decide
theorem lw3 : restT [(mk, 2, 15, false)] 14 = [(mk, 2, 15, false)] := by decide
theorem lw4 : dueT [(mk, 2, 15, false)] 14 = [] := by decide
theorem lw5 : restT [(mk, 2, 15, false)] 15 = [] := by decide
theorem lw6 : dueT [(mk, 2, 15, false)] 15 = [(mk, 2, 15, false)] := by decide
theorem lw7 : fixT [] 256 false mk 3 = ([(mk, 3, 0, true)], zE, 0) := by decide
theorem lw8 : seeT [(mk, 3, 0, true)] 10 mk 4 20 = ([(mk, 3, 0, true)], 3) := by decide
theorem lwakes_run (f : FreeL orc) (h70 : orc 70 = none) (hn : 1024 < n) (hQ : ∀ σ', Same σ σ' [] → Q (.bool true, σ')) : W (acall Try.prog gs orc (n + 15) 70 [] σ) Q := by
  have hsta : Sta 7 [2, 0, 0, 0, 0, 1] := sta_of (by unfold okDom; omega) (by omega)
  have bm : build' Try.prog 117 [(0, .int .u8 2), (1, .int .u8 0), (2, .int .u8 0), (3, .int .u8 0), (4, .int .u8 0), (5, .int .u8 1)] = some (macV [2, 0, 0, 0, 0, 1]) := by kernel_rfl
  have z0 : ([(.int .u8 (0)), (.int .u8 (0)), (.int .u8 (0)), (.int .u8 (0)), (.int .u8 (0)), (.int .u8 (0))] : List Value) = mcs (macU 0 0) := rfl
  have ld6 : ∀ {τ : AHeap} {b : Nat}, VarAt τ b (mcs [2, 0, 0, 0, 0, 1]) → ldCells τ b 0 6 = some (mcs [2, 0, 0, 0, 0, 1]) := fun v => v.ldCells
  rw [W_start (m := 85) (keep := []) Try.func70 rfl (by kernel_rfl) (by kernel_rfl) (by first | rfl | assumption | exact f.h70) (by rfl)]
  simp (maxSteps := 2000000) only [B0, B1, B2, B3, B4, B5, B6, B7, Gd, extV, Nat.reduceLT, Nat.reduceEqDiff, Nat.reduceBEq, Nat.reduceAdd, Nat.reduceSub, Nat.reduceMul, ↓reduceIte, reduceCtorEq, if_true, if_false, ite_true, ite_false, Int.reduceLT, Int.reduceLE, ptr, callV_func Try.enters_64, allocV_zero Try.zero_117, Try.st_117, Try.ld_117, callV_func Try.enters_67, callV_func Try.enters_65, callV_func Try.enters_74, Try.len_109, Try.ia_109, Try.fa_120_2, Try.ld_3, rs_tmp (show Try.f70.results = #[.tmp 0] from rfl)]
  refine lnew_run (t := 10) f (by omega) (by omega) fun σ1 s tp F h1 hs1 hF1 hS1 => ?_
  have w1 : LO σ σ1 s tp F [] 10 := ⟨h1, hF1, hs1, hS1⟩
  obtain ⟨σ2, σ3, e2, t3, w3, x3, hS3, _⟩ := w1.var 117 (mcs (macU 0 0)) (mcs [2, 0, 0, 0, 0, 1]) rfl mcs_single
  simp (maxSteps := 2000000) only [B0, B1, B2, B3, B4, B5, B6, B7, Gd, extV, Nat.reduceLT, Nat.reduceEqDiff, Nat.reduceBEq, Nat.reduceAdd, Nat.reduceSub, Nat.reduceMul, ↓reduceIte, reduceCtorEq, if_true, if_false, ite_true, ite_false, Int.reduceLT, Int.reduceLE, ptr, callV_func Try.enters_64, allocV_zero Try.zero_117, Try.st_117, Try.ld_117, callV_func Try.enters_67, callV_func Try.enters_65, callV_func Try.enters_74, Try.len_109, Try.ia_109, Try.fa_120_2, Try.ld_3, bm,  z0,  Value.cells,  mcs_list,  mcs_size (show [2,  0,  0,  0,  0,  1].length = 6 from rfl),  e2,  t3,  ld6 x3.v, rs_tmp (show Try.f70.results = #[.tmp 0] from rfl)]
  refine lsee_run (d := 7) (p := 1) (now := 0) f w3.h hsta (by omega) (by omega) (by omega) (by omega) fun σ4 F4 h4 hF4 hS4 => ?_
  have w4 := w3.call h4 hF4 hS4
  have x4 := x3.call hF4 hS4
  rw [lw1] at w4 ⊢
  simp (maxSteps := 2000000) only [B0, B1, B2, B3, B4, B5, B6, B7, Gd, extV, Nat.reduceLT, Nat.reduceEqDiff, Nat.reduceBEq, Nat.reduceAdd, Nat.reduceSub, Nat.reduceMul, ↓reduceIte, reduceCtorEq, if_true, if_false, ite_true, ite_false, Int.reduceLT, Int.reduceLE, ptr, callV_func Try.enters_64, allocV_zero Try.zero_117, Try.st_117, Try.ld_117, callV_func Try.enters_67, callV_func Try.enters_65, callV_func Try.enters_74, Try.len_109, Try.ia_109, Try.fa_120_2, Try.ld_3, ld6 x4.v, rs_tmp (show Try.f70.results = #[.tmp 0] from rfl)]
  refine lsee_run (d := 7) (p := 2) (now := 5) f w4.h hsta (by omega) (by omega) (by omega) (by omega) fun σ5 F5 h5 hF5 hS5 => ?_
  have w5 := w4.call h5 hF5 hS5
  have x5 := x4.call hF5 hS5
  rw [lw2] at w5 ⊢
  simp (maxSteps := 2000000) only [B0, B1, B2, B3, B4, B5, B6, B7, Gd, extV, Nat.reduceLT, Nat.reduceEqDiff, Nat.reduceBEq, Nat.reduceAdd, Nat.reduceSub, Nat.reduceMul, ↓reduceIte, reduceCtorEq, if_true, if_false, ite_true, ite_false, Int.reduceLT, Int.reduceLE, ptr, callV_func Try.enters_64, allocV_zero Try.zero_117, Try.st_117, Try.ld_117, callV_func Try.enters_67, callV_func Try.enters_65, callV_func Try.enters_74, Try.len_109, Try.ia_109, Try.fa_120_2, Try.ld_3, rs_tmp (show Try.f70.results = #[.tmp 0] from rfl)]
  refine ltick_run f w5.h 14 (by omega) fun σ6 v6 h6 hv6 hb6 hS6 => ?_
  have w6 := w5.call h6 (fun b hb => .inl hb) hS6
  have x6 := x5.call (fun b hb => .inl hb) hS6
  rw [lw3] at w6
  rw [lw4] at hv6
  obtain ⟨a6, c6, rfl, hc6⟩ := hv6.len
  simp (maxSteps := 2000000) only [B0, B1, B2, B3, B4, B5, B6, B7, Gd, extV, Nat.reduceLT, Nat.reduceEqDiff, Nat.reduceBEq, Nat.reduceAdd, Nat.reduceSub, Nat.reduceMul, ↓reduceIte, reduceCtorEq, if_true, if_false, ite_true, ite_false, Int.reduceLT, Int.reduceLE, ptr, callV_func Try.enters_64, allocV_zero Try.zero_117, Try.st_117, Try.ld_117, callV_func Try.enters_67, callV_func Try.enters_65, callV_func Try.enters_74, Try.len_109, Try.ia_109, Try.fa_120_2, Try.ld_3, rs_tmp (show Try.f70.results = #[.tmp 0] from rfl)]
  refine ltick_run f w6.h 15 (by omega) fun σ7 v7 h7 hv7 hb7 hS7 => ?_
  have w7 := w6.call h7 (fun b hb => .inl hb) hS7
  have x7 := x6.call (fun b hb => .inl hb) hS7
  rw [lw5] at w7
  rw [lw6] at hv7
  obtain ⟨a7, c7, rfl, hc7⟩ := hv7.len
  simp (maxSteps := 2000000) only [B0, B1, B2, B3, B4, B5, B6, B7, Gd, extV, Nat.reduceLT, Nat.reduceEqDiff, Nat.reduceBEq, Nat.reduceAdd, Nat.reduceSub, Nat.reduceMul, ↓reduceIte, reduceCtorEq, if_true, if_false, ite_true, ite_false, Int.reduceLT, Int.reduceLE, ptr, callV_func Try.enters_64, allocV_zero Try.zero_117, Try.st_117, Try.ld_117, callV_func Try.enters_67, callV_func Try.enters_65, callV_func Try.enters_74, Try.len_109, Try.ia_109, Try.fa_120_2, Try.ld_3, ld6 x7.v, rs_tmp (show Try.f70.results = #[.tmp 0] from rfl)]
  refine lfix_run (d := 7) (p := 3) f w7.h hsta (by omega) (by omega) fun σ8 F8 h8 hF8 hS8 => ?_
  have w8 := w7.call h8 hF8 hS8
  have x8 := x7.call hF8 hS8
  have hv8 := hv7.same hS8 (fun b hb q => by have := hb7 b hb; have := w6.h.tab.low b q; omega)
  rw [lw7] at w8 ⊢
  simp (maxSteps := 2000000) only [B0, B1, B2, B3, B4, B5, B6, B7, Gd, extV, Nat.reduceLT, Nat.reduceEqDiff, Nat.reduceBEq, Nat.reduceAdd, Nat.reduceSub, Nat.reduceMul, ↓reduceIte, reduceCtorEq, if_true, if_false, ite_true, ite_false, Int.reduceLT, Int.reduceLE, ptr, callV_func Try.enters_64, allocV_zero Try.zero_117, Try.st_117, Try.ld_117, callV_func Try.enters_67, callV_func Try.enters_65, callV_func Try.enters_74, Try.len_109, Try.ia_109, Try.fa_120_2, Try.ld_3, ld6 x8.v, rs_tmp (show Try.f70.results = #[.tmp 0] from rfl)]
  refine lsee_run (d := 7) (p := 4) (now := 20) f w8.h hsta (by omega) (by omega) (by omega) (by omega) fun σ9 F9 h9 hF9 hS9 => ?_
  have w9 := w8.call h9 hF9 hS9
  have hv9 := hv8.same hS9 (fun b hb q => by
    have := hb7 b hb
    rcases hF8 b q with z | z
    · have := w6.h.tab.low b z; omega
    · have := hv7.lt b hb; omega)
  rw [lw8] at w9 ⊢
  obtain ⟨b, o, cap, g, e, hcap, hbl, hr⟩ := hv9.at_ (i := 0) (x := (mk, 2, 15, false)) rfl
  injection e with e _ e3
  subst e e3
  have k0 := hr.ld (i := 0) (j := 7) (x := (mk, 2, 15, false)) (v := .int .i64 2) rfl rfl
  simp only [Nat.zero_mul, Nat.add_zero] at k0
  simp (maxSteps := 2000000) only [B0, B1, B2, B3, B4, B5, B6, B7, Gd, extV, Nat.reduceLT, Nat.reduceEqDiff, Nat.reduceBEq, Nat.reduceAdd, Nat.reduceSub, Nat.reduceMul, ↓reduceIte, reduceCtorEq, if_true, if_false, ite_true, ite_false, Int.reduceLT, Int.reduceLE, ptr, callV_func Try.enters_64, allocV_zero Try.zero_117, Try.st_117, Try.ld_117, callV_func Try.enters_67, callV_func Try.enters_65, callV_func Try.enters_74, Try.len_109, Try.ia_109, Try.fa_120_2, Try.ld_3, Int.reduceEq,  List.length_nil,  List.length_cons,  Nat.zero_mul,  Nat.add_zero,  k0,  idx_zero,  Nat.zero_lt_one, rs_tmp (show Try.f70.results = #[.tmp 0] from rfl)]
  exact hQ σ9 w9.same
end Go.Proofs.Ytongccpmdndcgaa.Lrn
end
/- Rows of stations searched. -/
section
set_option linter.all false
namespace Go.Proofs.Ytongccpmdndcgaa.Lrn
open Go Go.AE Go.Proofs.Ytongccpmdndcgaa.Alm Go.Proofs.Ytongccpmdndcgaa.Tab Go.Sort Go.Proofs
set_option maxRecDepth 100000
set_option maxHeartbeats 2000000
attribute [local irreducible] Go.AE.Tr.put Go.AE.Tr.get
variable {gs : List Nat} {orc : Orc} {n : Nat} {σ : AHeap} {Q : Value × AHeap → Prop}

/-- One of the stations of the law. -/
theorem station_run (h68 : orc 68 = none) {w : Nat} (hQ : ∀ σ', Same σ σ' [] → Q (macV [2, 0, 0, 0, 0, w % 8], σ')) : W (acall Try.prog gs orc (n + 1) 68 [.int .u8 (w : Int)] σ) Q := by
  have z0 : ([(.int .u8 (0)), (.int .u8 (0)), (.int .u8 (0)), (.int .u8 (0)), (.int .u8 (0)), (.int .u8 (0))] : List Value) = mcs (macU 0 0) := rfl
  obtain ⟨σ1, σ2, e1, t2, hS2, v2, hn2, hS1⟩ := AE.newVar σ 117 (mcs (macU 0 0)) (mcs [2, 0, 0, 0, 0, w % 8]) rfl mcs_single
  have l2 : ldCells σ2 σ.next 0 6 = some (mcs [2, 0, 0, 0, 0, w % 8]) := v2.ldCells
  have bm : ∀ {c : Nat}, build' Try.prog 117 [(0, .int .u8 2), (1, .int .u8 0), (2, .int .u8 0), (3, .int .u8 0), (4, .int .u8 0), (5, .int .u8 (c : Int))] = some (macV [2, 0, 0, 0, 0, c]) := by intro c; kernel_rfl
  rw [W_start (m := 6) (keep := []) Try.func68 rfl (by kernel_rfl) (by kernel_rfl) (by first | rfl | assumption | exact f.h68) (by rfl)]
  simp (maxSteps := 2000000) only [B0, B1, B2, B3, B4, B5, B6, B7, Gd, extV, Nat.reduceLT, Nat.reduceEqDiff, Nat.reduceBEq, Nat.reduceAdd, Nat.reduceSub, Nat.reduceMul, ↓reduceIte, reduceCtorEq, if_true, if_false, ite_true, ite_false, Int.reduceLT, Int.reduceLE, ptr, allocV_zero Try.zero_117, Try.st_117, Try.ld_117, rem8,  bm,  z0,  Value.cells,  mcs_list,  mcs_size (show [2,  0,  0,  0,  0,  w % 8].length = 6 from rfl),  e1,  t2,  l2, rs_c (show Try.f68.results = #[.cell 2 117] from rfl)]
  exact hQ σ2 hS2
end Go.Proofs.Ytongccpmdndcgaa.Lrn
end
