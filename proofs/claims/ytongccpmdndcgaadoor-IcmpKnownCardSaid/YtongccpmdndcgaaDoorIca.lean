/- Texts of this proof, gathered. What each part says stands at its head; conditions: none but those that its theorems name. -/
import Derived.Test.YtongccpmdndcgaaDoorE4
import Derived.Test.YtongccpmdndcgaaDoorFac
/- Bytes as the evaluator reads them: words, numbers, sums. -/
section
set_option linter.all false
namespace Go.Proofs.YtongccpmdndcgaaDoor.Icm
open Go Go.AE Go.Proofs
set_option maxRecDepth 100000
set_option maxHeartbeats 1000000
attribute [local irreducible] Go.AE.Tr.put Go.AE.Tr.get
variable {gs : List Nat} {orc : Orc} {n : Nat} {σ : AHeap} {Q : Value × AHeap → Prop}

structure FreeI (orc : Orc) : Prop where
  a : ∀ f, orc f = none
theorem FreeI.h3 {orc : Orc} (f : FreeI orc) : orc 3 = none := f.a 3
theorem FreeI.h4 {orc : Orc} (f : FreeI orc) : orc 4 = none := f.a 4
theorem FreeI.h5 {orc : Orc} (f : FreeI orc) : orc 5 = none := f.a 5
theorem FreeI.h6 {orc : Orc} (f : FreeI orc) : orc 6 = none := f.a 6
theorem FreeI.h7 {orc : Orc} (f : FreeI orc) : orc 7 = none := f.a 7
theorem FreeI.h8 {orc : Orc} (f : FreeI orc) : orc 8 = none := f.a 8
theorem FreeI.h10 {orc : Orc} (f : FreeI orc) : orc 10 = none := f.a 10
theorem FreeI.h11 {orc : Orc} (f : FreeI orc) : orc 11 = none := f.a 11
theorem FreeI.h12 {orc : Orc} (f : FreeI orc) : orc 12 = none := f.a 12
theorem FreeI.h16 {orc : Orc} (f : FreeI orc) : orc 16 = none := f.a 16
theorem FreeI.h17 {orc : Orc} (f : FreeI orc) : orc 17 = none := f.a 17
theorem FreeI.h18 {orc : Orc} (f : FreeI orc) : orc 18 = none := f.a 18
theorem FreeI.h19 {orc : Orc} (f : FreeI orc) : orc 19 = none := f.a 19
theorem FreeI.h20 {orc : Orc} (f : FreeI orc) : orc 20 = none := f.a 20
theorem FreeI.h21 {orc : Orc} (f : FreeI orc) : orc 21 = none := f.a 21
theorem FreeI.h23 {orc : Orc} (f : FreeI orc) : orc 23 = none := f.a 23
theorem FreeI.h24 {orc : Orc} (f : FreeI orc) : orc 24 = none := f.a 24
theorem FreeI.h26 {orc : Orc} (f : FreeI orc) : orc 26 = none := f.a 26
theorem FreeI.h27 {orc : Orc} (f : FreeI orc) : orc 27 = none := f.a 27
theorem FreeI.h30 {orc : Orc} (f : FreeI orc) : orc 30 = none := f.a 30
theorem FreeI.h31 {orc : Orc} (f : FreeI orc) : orc 31 = none := f.a 31
theorem FreeI.h32 {orc : Orc} (f : FreeI orc) : orc 32 = none := f.a 32
theorem FreeI.h33 {orc : Orc} (f : FreeI orc) : orc 33 = none := f.a 33
abbrev pt (b : Nat) : Value := .pointer (some ⟨b, 0, none⟩)
def encB (b : Nat) : List Value := [.int .u8 (b : Int)]
theorem encBOk : Enc 1 encB := ⟨fun _ => rfl, fun x v hv => by simp [encB] at hv; subst hv; rfl, by omega⟩
abbrev Byt (A : List Nat) : Prop := ∀ b ∈ A, b < 256
abbrev gd (A : List Nat) (i : Nat) : Nat := A.getD i 0
theorem gd_some {A : List Nat} {i : Nat} (h : i < A.length) : A[i]? = some (gd A i) := by rw [gd, List.getD, List.getElem?_eq_getElem h]; rfl
theorem gd_lt {A : List Nat} (h : Byt A) (i : Nat) : gd A i < 256 := by
  by_cases hi : i < A.length
  · exact h _ (List.mem_of_getElem? (gd_some hi))
  · rw [gd, List.getD, List.getElem?_eq_none (by omega)]; decide
theorem gd_drop {A : List Nat} {j i : Nat} : gd (A.drop j) i = gd A (j + i) := by simp [gd, List.getD]
theorem Byt.drop {A : List Nat} (h : Byt A) (j : Nat) : Byt (A.drop j) := fun b hb => h b (List.mem_of_mem_drop hb)
theorem Byt.take {A : List Nat} (h : Byt A) (j : Nat) : Byt (A.take j) := fun b hb => h b (List.mem_of_mem_take hb)
/-- Bytes in memory. -/
abbrev BAt (σ : AHeap) (v : Value) (A : List Nat) : Prop := SlAt σ 5 1 encB v A
theorem BAt.rows {v : Value} {A : List Nat} (h : BAt σ v A) (h0 : 0 < A.length) : ∃ b o cap, v = .slice (some ⟨b, o, none⟩) A.length cap ∧ b < σ.next ∧ ∀ i, i < A.length → ld σ b (o + i) = some (.int .u8 (gd A i : Int)) := by
  obtain ⟨b, o, cap, g, e, hc, hb, hr⟩ := SlAt.at_ h (i := 0) (gd_some h0)
  exact ⟨b, o, cap, e, hb, fun i hi => by have := hr.ld (j := 0) (gd_some hi) rfl; simpa using this⟩
def wd (A : List Nat) (i : Nat) : Nat := gd A i * 256 + gd A (i + 1)
theorem wd_lt {A : List Nat} (h : Byt A) (i : Nat) : wd A i < 65536 := by have := gd_lt h i; have := gd_lt h (i + 1); unfold wd; omega
theorem wd_drop {A : List Nat} {j i : Nat} : wd (A.drop j) i = wd A (j + i) := by unfold wd; rw [gd_drop, gd_drop, Nat.add_assoc]
def ad (A : List Nat) (i : Nat) : Nat := wd A i * 65536 + wd A (i + 2)
theorem word31_run (f : FreeI orc) {v : Value} {A : List Nat} (hv : BAt σ v A) (hB : Byt A) (h2 : 2 ≤ A.length) : W (acall Tryd.prog gs orc (n + 1) 31 [v] σ) Q = Q (.int .u16 (wd A 0 : Int), σ) := by
  have g0 := gd_lt hB 0
  have g1 := gd_lt hB 1
  obtain ⟨b, o, cap, rfl, hb, hl⟩ := hv.rows (by omega)
  have l0 := hl 0 (by omega)
  simp only [Nat.add_zero] at l0
  have l1 := hl 1 (by omega)
  have c0 : 0 < A.length := by omega
  have c1 : 1 < A.length := by omega
  have hor : (gd A 0 * 256) ||| gd A 1 = wd A 0 := or_join (s := 8) g1
  rw [W_start (m := 13) (keep := []) Tryd.func31 rfl (by kernel_rfl) (by kernel_rfl) (by first | rfl | assumption | exact f.h31) (by rfl)]
  simp (maxSteps := 2000000) only [B0, B1, B2, B3, B4, B5, B6, B7, Gd, extV, Nat.reduceLT, Nat.reduceEqDiff, Nat.reduceBEq, Nat.reduceAdd, Nat.reduceSub, Nat.reduceMul, ↓reduceIte, reduceCtorEq, if_true, if_false, ite_true, ite_false, Int.reduceLT, Int.reduceLE, ptr, Tryd.ia_23, Tryd.ld_5, c0,  c1,  l0,  l1,  Nat.zero_mul,  Nat.one_mul,  conv_int Tryd.underlying5 Tryd.underlying35,  wrapU16 (show gd A 0 < 65536 by omega),  wrapU16 (show gd A 1 < 65536 by omega),  shl8_16 g0,  or_16 (show gd A 0 * 256 < 65536 by omega) (show gd A 1 < 65536 by omega),  hor, rs_tmp (show Tryd.f31.results = #[.tmp 2] from rfl)]
theorem word24_run (f : FreeI orc) {v : Value} {A : List Nat} (hv : BAt σ v A) (hB : Byt A) (h2 : 2 ≤ A.length) : W (acall Tryd.prog gs orc (n + 1) 24 [v] σ) Q = Q (.int .u16 (wd A 0 : Int), σ) := by
  have g0 := gd_lt hB 0
  have g1 := gd_lt hB 1
  obtain ⟨b, o, cap, rfl, hb, hl⟩ := hv.rows (by omega)
  have l0 := hl 0 (by omega)
  simp only [Nat.add_zero] at l0
  have l1 := hl 1 (by omega)
  have c0 : 0 < A.length := by omega
  have c1 : 1 < A.length := by omega
  have hor : (gd A 0 * 256) ||| gd A 1 = wd A 0 := or_join (s := 8) g1
  rw [W_start (m := 13) (keep := []) Tryd.func24 rfl (by kernel_rfl) (by kernel_rfl) (by first | rfl | assumption | exact f.h24) (by rfl)]
  simp (maxSteps := 2000000) only [B0, B1, B2, B3, B4, B5, B6, B7, Gd, extV, Nat.reduceLT, Nat.reduceEqDiff, Nat.reduceBEq, Nat.reduceAdd, Nat.reduceSub, Nat.reduceMul, ↓reduceIte, reduceCtorEq, if_true, if_false, ite_true, ite_false, Int.reduceLT, Int.reduceLE, ptr, Tryd.ia_23, Tryd.ld_5, c0,  c1,  l0,  l1,  Nat.zero_mul,  Nat.one_mul,  conv_int Tryd.underlying5 Tryd.underlying35,  wrapU16 (show gd A 0 < 65536 by omega),  wrapU16 (show gd A 1 < 65536 by omega),  shl8_16 g0,  or_16 (show gd A 0 * 256 < 65536 by omega) (show gd A 1 < 65536 by omega),  hor, rs_tmp (show Tryd.f24.results = #[.tmp 2] from rfl)]
theorem addr_run (f : FreeI orc) {v : Value} {A : List Nat} (hv : BAt σ v A) (hB : Byt A) (h4 : 4 ≤ A.length) : W (acall Tryd.prog gs orc (n + 2) 33 [v] σ) Q = Q (.int .u32 (ad A 0 : Int), σ) := by
  refine W_of_all (fun Q hQ => ?_) Q
  obtain ⟨v', hs, hv', _⟩ := slice_drop (kk := .i64) (t := 23) Tryd.underlying23 Tryd.size_5 hv (j := 2) (by omega)
  obtain ⟨a', c', rfl, _⟩ := hv'.len
  have w0 := wd_lt hB 0
  have w2 := wd_lt hB 2
  have e2 : wd (A.drop 2) 0 = wd A 2 := wd_drop
  have r2 : ∀ (Q' : Value × AHeap → Prop), W (acall Tryd.prog gs orc (n + 1) 31 [.slice a' (A.drop 2).length c'] σ) Q' = Q' (.int .u16 (wd A 2 : Int), σ) := fun Q' => by rw [word31_run f hv' (hB.drop 2) (by rw [List.length_drop]; omega), e2]
  have hs : sliceOp Tryd.prog 23 v (some (.int .i64 2)) none none σ = some (.slice a' (A.drop 2).length c') := hs
  have hor : (wd A 0 * 65536) ||| wd A 2 = ad A 0 := or_join (s := 16) w2
  rw [W_start (m := 12) (keep := [1]) Tryd.func33 rfl (by kernel_rfl) (by kernel_rfl) (by first | rfl | assumption | exact f.h33) (by rfl)]
  simp (maxSteps := 2000000) only [B0, B1, B2, B3, B4, B5, B6, B7, Gd, extV, Nat.reduceLT, Nat.reduceEqDiff, Nat.reduceBEq, Nat.reduceAdd, Nat.reduceSub, Nat.reduceMul, ↓reduceIte, reduceCtorEq, if_true, if_false, ite_true, ite_false, Int.reduceLT, Int.reduceLE, ptr, callV_func Tryd.enters_31, rs_tmp (show Tryd.f33.results = #[.tmp 2] from rfl)]
  refine Eq.mpr (W_retold (ps := [(1, 5), (6, 2)]) (by kernel_rfl) (by kernel_rfl) (by simp)) ?_
  simp (maxSteps := 2000000) only [B0, B1, B2, B3, B4, B5, B6, B7, Gd, extV, Nat.reduceLT, Nat.reduceEqDiff, Nat.reduceBEq, Nat.reduceAdd, Nat.reduceSub, Nat.reduceMul, ↓reduceIte, reduceCtorEq, if_true, if_false, ite_true, ite_false, Int.reduceLT, Int.reduceLE, ptr, callV_func Tryd.enters_31, word31_run f hv hB (by omega),  hs,  r2,  conv_int Tryd.underlying35 Tryd.underlying37,  wrapU32 (show wd A 0 < 4294967296 by omega),  wrapU32 (show wd A 2 < 4294967296 by omega),  shl16_32 w0,  or_32 (show wd A 0 * 65536 < 4294967296 by omega) (show wd A 2 < 4294967296 by omega),  hor, rs_tmp (show Tryd.f33.results = #[.tmp 2] from rfl)]
  exact hQ
end Go.Proofs.YtongccpmdndcgaaDoor.Icm
end
/- Sums of bytes, both ways. -/
section
set_option linter.all false
namespace Go.Proofs.YtongccpmdndcgaaDoor.Icm
open Go Go.AE Go.Proofs
set_option maxRecDepth 100000
set_option maxHeartbeats 1000000
attribute [local irreducible] Go.AE.Tr.put Go.AE.Tr.get
variable {gs : List Nat} {orc : Orc} {n : Nat} {σ : AHeap} {Q : Value × AHeap → Prop}

def wt (A : List Nat) : Nat → Nat
  | 0 => 0
  | i + 1 => wt A i + (if i % 2 = 0 then gd A i * 256 else gd A i)
theorem wt_le {A : List Nat} (h : Byt A) : ∀ i, wt A i ≤ 65280 * i
  | 0 => by simp [wt]
  | i + 1 => by
    have := wt_le h i
    have := gd_lt h i
    unfold wt
    split <;> omega
def f16 (n : Nat) : Nat := if n = 0 then 0 else (n - 1) % 65535 + 1
theorem f16_small {n : Nat} (h : n ≤ 65535) : f16 n = n := by unfold f16; split <;> omega
theorem f16_step {n : Nat} (h : 65535 < n) : f16 (n % 65536 + n / 65536) = f16 n := by unfold f16; split <;> split <;> omega
theorem f16_le (n : Nat) : f16 n ≤ 65535 := by unfold f16; split <;> omega
def sumN (A : List Nat) : Nat := 65535 - f16 (wt A A.length)
theorem rem2 {P : Program} {t : TypeId} {x y : Operand} {k : IntKind} {a : Nat} : bin P .rem t x y (.int k (a : Int)) (.int k 2) = some (.int k ((a % 2 : Nat) : Int)) := by
  rw [bin_rem (by decide)]
  have : (a : Int).tmod 2 = ((a % 2 : Nat) : Int) := by rw [Int.tmod_eq_emod_of_nonneg (by omega)]; omega
  rw [this]
def mu (m : Nat) : Nat := if m ≤ 65535 then 0 else if m ≤ 65537 then 1 else if m ≤ 196607 then 2 else 3
theorem sum21_run (f : FreeI orc) {v : Value} {A : List Nat} (hv : BAt σ v A) (hB : Byt A) (hl : A.length ≤ 70000) (hn : A.length + 10 < n) (hQ : Q (.int .u16 (sumN A : Int), σ)) : W (acall Tryd.prog gs orc (n + 1) 21 [v] σ) Q := by
  obtain ⟨a, c, rfl, hc⟩ := hv.len
  have hwl := wt_le hB A.length
  rw [W_start (m := 36) (keep := []) Tryd.func21 rfl (by kernel_rfl) (by kernel_rfl) (by first | rfl | assumption | exact f.h21) (by rfl)]
  simp (maxSteps := 2000000) only [B0, B1, B2, B3, B4, B5, B6, B7, Gd, extV, Nat.reduceLT, Nat.reduceEqDiff, Nat.reduceBEq, Nat.reduceAdd, Nat.reduceSub, Nat.reduceMul, ↓reduceIte, reduceCtorEq, if_true, if_false, ite_true, ite_false, Int.reduceLT, Int.reduceLE, ptr, Tryd.len_23, Tryd.ia_23, Tryd.ld_5, rs_tmp (show Tryd.f21.results = #[.tmp 2] from rfl)]
  refine W_cut2 (fun fr σ' => σ = σ' ∧ ∃ (t : Tr Value), fr = ⟨36, t⟩ ∧ t.get 3 = some (.int .u64 (wt A A.length : Int))) ?_ ?_
  · refine W_inv (fun k fr σ' => σ = σ' ∧ ∃ (t : Tr Value) (i : Nat), fr = ⟨36, t⟩ ∧ t.get 3 = some (.int .u64 (wt A i : Int)) ∧ t.get 6 = some (.slice a A.length c) ∧ t.get 7 = some (.int .i64 (A.length : Int)) ∧ t.get 8 = some (.int .i64 (i : Int)) ∧ k + i = A.length) A.length (by omega)
      ⟨rfl, _, 0, rfl, by simp [get_put, wt], by simp [get_put, get_args], by simp [get_put], by simp [get_put], rfl⟩ ?_
    rintro k fr σ1 ⟨rfl, t, i, rfl, t3, t6, t7, t8, hk⟩
    by_cases hlt : i < A.length
    · have hlt' : ((i : Int) < (A.length : Int)) = True := eq_true (by omega)
      obtain ⟨b, o, cap, e, hb, hll⟩ := hv.rows (by omega)
      injection e with e _ e3
      subst e e3
      have li := hll i hlt
      have g := gd_lt hB i
      have hwi := wt_le hB i
      have hw1 : IntKind.i64.wrap ((i : Int) + 1) = ((i + 1 : Nat) : Int) := wrap64 (by omega) (by omega)
      by_cases he : i % 2 = 0
      · have he' : (((i % 2 : Nat) : Int) = 0) = True := eq_true (by omega)
        have hws : IntKind.u64.wrap ((wt A i : Int) + ((gd A i * 256 : Nat) : Int)) = (wt A (i + 1) : Int) := by
          have e1 : wt A (i + 1) = wt A i + gd A i * 256 := by show wt A i + _ = _; rw [if_pos he]
          rw [e1, show (wt A i : Int) + ((gd A i * 256 : Nat) : Int) = ((wt A i + gd A i * 256 : Nat) : Int) by omega, wrapU64 (by omega)]
        simp (maxSteps := 2000000) only [B0, B1, B2, B3, B4, B5, B6, B7, Gd, extV, Nat.reduceLT, Nat.reduceEqDiff, Nat.reduceBEq, Nat.reduceAdd, Nat.reduceSub, Nat.reduceMul, ↓reduceIte, reduceCtorEq, if_true, if_false, ite_true, ite_false, Int.reduceLT, Int.reduceLE, ptr, Tryd.len_23, Tryd.ia_23, Tryd.ld_5, t3,  t6,  t7,  t8,  hlt',  hlt,  Nat.mul_one,  li,  rem2,  he',  conv_int Tryd.underlying5 Tryd.underlying68,  wrapU64 (show gd A i < 18446744073709551616 by omega),  shl8 (show gd A i < 72057594037927936 by omega),  hws,  hw1,  KInv_normal, rs_tmp (show Tryd.f21.results = #[.tmp 2] from rfl)]
        exact ⟨A.length - (i + 1), by omega, _, i + 1, rfl, by simp [get_put], by simp [get_put, t6], by simp [get_put, t7], by simp [get_put], by omega⟩
      · have he' : (((i % 2 : Nat) : Int) = 0) = False := eq_false (by omega)
        have hws : IntKind.u64.wrap ((wt A i : Int) + (gd A i : Int)) = (wt A (i + 1) : Int) := by
          have e1 : wt A (i + 1) = wt A i + gd A i := by show wt A i + _ = _; rw [if_neg he]
          rw [e1, show (wt A i : Int) + (gd A i : Int) = ((wt A i + gd A i : Nat) : Int) by omega, wrapU64 (by omega)]
        simp (maxSteps := 2000000) only [B0, B1, B2, B3, B4, B5, B6, B7, Gd, extV, Nat.reduceLT, Nat.reduceEqDiff, Nat.reduceBEq, Nat.reduceAdd, Nat.reduceSub, Nat.reduceMul, ↓reduceIte, reduceCtorEq, if_true, if_false, ite_true, ite_false, Int.reduceLT, Int.reduceLE, ptr, Tryd.len_23, Tryd.ia_23, Tryd.ld_5, t3,  t6,  t7,  t8,  hlt',  hlt,  Nat.mul_one,  li,  rem2,  he',  conv_int Tryd.underlying5 Tryd.underlying68,  wrapU64 (show gd A i < 18446744073709551616 by omega),  hws,  hw1,  KInv_normal, rs_tmp (show Tryd.f21.results = #[.tmp 2] from rfl)]
        exact ⟨A.length - (i + 1), by omega, _, i + 1, rfl, by simp [get_put], by simp [get_put, t6], by simp [get_put, t7], by simp [get_put], by omega⟩
    · have hlt' : ((i : Int) < (A.length : Int)) = False := eq_false (by omega)
      obtain rfl : i = A.length := by omega
      simp (maxSteps := 2000000) only [B0, B1, B2, B3, B4, B5, B6, B7, Gd, extV, Nat.reduceLT, Nat.reduceEqDiff, Nat.reduceBEq, Nat.reduceAdd, Nat.reduceSub, Nat.reduceMul, ↓reduceIte, reduceCtorEq, if_true, if_false, ite_true, ite_false, Int.reduceLT, Int.reduceLE, ptr, Tryd.len_23, Tryd.ia_23, Tryd.ld_5, t3,  t6,  t7,  t8,  hlt', rs_tmp (show Tryd.f21.results = #[.tmp 2] from rfl)]
      exact ⟨_, _, rfl, rfl, _, rfl, by simp [get_put, t3]⟩
  · rintro fr σ1 ⟨rfl, t, rfl, t3⟩
    rw [KSeq_normal]
    simp (maxSteps := 2000000) only [B0, B1, B2, B3, B4, B5, B6, B7, Gd, extV, Nat.reduceLT, Nat.reduceEqDiff, Nat.reduceBEq, Nat.reduceAdd, Nat.reduceSub, Nat.reduceMul, ↓reduceIte, reduceCtorEq, if_true, if_false, ite_true, ite_false, Int.reduceLT, Int.reduceLE, ptr, Tryd.len_23, Tryd.ia_23, Tryd.ld_5, rs_tmp (show Tryd.f21.results = #[.tmp 2] from rfl)]
    refine W_inv (fun k fr σ' => σ = σ' ∧ ∃ (t : Tr Value) (m : Nat), fr = ⟨36, t⟩ ∧ t.get 3 = some (.int .u64 (m : Int)) ∧ k = mu m ∧ f16 m = f16 (wt A A.length) ∧ m ≤ 8589934592) (mu (wt A A.length)) (by unfold mu; split; omega; split; omega; split <;> omega)
      ⟨rfl, _, _, rfl, t3, rfl, rfl, by omega⟩ ?_
    rintro k fr σ1 ⟨rfl, t, m, rfl, t3, rfl, hf, hm⟩
    by_cases hgt : 65535 < m
    · have hgt' : ((65535 : Int) < (m : Int)) = True := eq_true (by omega)
      have hws : IntKind.u64.wrap (((m % 65536 : Nat) : Int) + ((m / 65536 : Nat) : Int)) = ((m % 65536 + m / 65536 : Nat) : Int) := by
        rw [show ((m % 65536 : Nat) : Int) + ((m / 65536 : Nat) : Int) = ((m % 65536 + m / 65536 : Nat) : Int) by omega, wrapU64 (by omega)]
      simp (maxSteps := 2000000) only [B0, B1, B2, B3, B4, B5, B6, B7, Gd, extV, Nat.reduceLT, Nat.reduceEqDiff, Nat.reduceBEq, Nat.reduceAdd, Nat.reduceSub, Nat.reduceMul, ↓reduceIte, reduceCtorEq, if_true, if_false, ite_true, ite_false, Int.reduceLT, Int.reduceLE, ptr, Tryd.len_23, Tryd.ia_23, Tryd.ld_5, t3,  hgt',  and65535_64 (show m < 18446744073709551616 by omega),  shr16_64,  hws,  KInv_normal, rs_tmp (show Tryd.f21.results = #[.tmp 2] from rfl)]
      refine ⟨_, ?_, _, m % 65536 + m / 65536, rfl, by simp [get_put], rfl, by rw [f16_step hgt]; exact hf, by omega⟩
      unfold mu
      (repeat' split) <;> omega
    · have hgt' : ((65535 : Int) < (m : Int)) = False := eq_false (by omega)
      have e1 : m = f16 (wt A A.length) := by rw [← hf, f16_small (by omega)]
      simp (maxSteps := 2000000) only [B0, B1, B2, B3, B4, B5, B6, B7, Gd, extV, Nat.reduceLT, Nat.reduceEqDiff, Nat.reduceBEq, Nat.reduceAdd, Nat.reduceSub, Nat.reduceMul, ↓reduceIte, reduceCtorEq, if_true, if_false, ite_true, ite_false, Int.reduceLT, Int.reduceLE, ptr, Tryd.len_23, Tryd.ia_23, Tryd.ld_5, t3,  hgt',  conv_int Tryd.underlying68 Tryd.underlying35,  wrapU16 (show m < 65536 by omega),  not_16 (show m < 65536 by omega), rs_tmp (show Tryd.f21.results = #[.tmp 2] from rfl)]
      rw [e1]
      exact hQ
end Go.Proofs.YtongccpmdndcgaaDoor.Icm
end
/- Options, both ways; where a head begins. -/
section
set_option linter.all false
namespace Go.Proofs.YtongccpmdndcgaaDoor.Icm
open Go Go.AE Go.Proofs
set_option maxRecDepth 100000
set_option maxHeartbeats 1000000
attribute [local irreducible] Go.AE.Tr.put Go.AE.Tr.get
variable {gs : List Nat} {orc : Orc} {n : Nat} {σ : AHeap} {Q : Value × AHeap → Prop}

def optG : Nat → List Nat → Bool
  | 0, _ => true
  | _ + 1, [] => true
  | k + 1, x :: r => if x = 0 then true else if x = 1 then optG k r else if r.length + 1 < 2 ∨ gd (x :: r) 1 < 2 ∨ r.length + 1 < gd (x :: r) 1 then false else optG k ((x :: r).drop (gd (x :: r) 1))
theorem optG_more : ∀ (k k' : Nat) (A : List Nat), A.length < k → A.length < k' → optG k A = optG k' A
  | 0, _, _, h, _ => by omega
  | k + 1, 0, _, _, h => by omega
  | k + 1, k' + 1, [], _, _ => rfl
  | k + 1, k' + 1, x :: r, h, h' => by
    rw [List.length_cons] at h h'
    unfold optG
    split
    · rfl
    · split
      · exact optG_more k k' r (by omega) (by omega)
      · split
        · rfl
        · rename_i w
          exact optG_more k k' _ (by rw [List.length_drop, List.length_cons]; omega) (by rw [List.length_drop, List.length_cons]; omega)
theorem optG_nil : optG 41 [] = true := rfl
theorem optG_zero {A : List Nat} (h : 0 < A.length) (h0 : gd A 0 = 0) : optG 41 A = true := by
  cases A with
  | nil => simp at h
  | cons x r => have : x = 0 := h0; unfold optG; rw [if_pos this]
theorem optG_one {A : List Nat} (h : 0 < A.length) (hl : A.length ≤ 40) (h0 : gd A 0 = 1) : optG 41 A = optG 41 (A.drop 1) := by
  cases A with
  | nil => simp at h
  | cons x r =>
    have : x = 1 := h0
    rw [List.length_cons] at hl
    conv => lhs; unfold optG
    rw [if_neg (by omega), if_pos this]
    exact optG_more 40 41 r (by omega) (by omega)
theorem optG_bad {A : List Nat} (h : 0 < A.length) (h0 : gd A 0 ≠ 0) (h1 : gd A 0 ≠ 1) (hb : A.length < 2 ∨ gd A 1 < 2 ∨ A.length < gd A 1) : optG 41 A = false := by
  cases A with
  | nil => simp at h
  | cons x r =>
    have hx0 : x ≠ 0 := h0
    have hx1 : x ≠ 1 := h1
    rw [List.length_cons] at hb
    unfold optG
    rw [if_neg hx0, if_neg hx1, if_pos hb]
theorem optG_step {A : List Nat} (h : 0 < A.length) (hl : A.length ≤ 40) (h0 : gd A 0 ≠ 0) (h1 : gd A 0 ≠ 1) (hb : ¬ (A.length < 2 ∨ gd A 1 < 2 ∨ A.length < gd A 1)) : optG 41 A = optG 41 (A.drop (gd A 1)) := by
  cases A with
  | nil => simp at h
  | cons x r =>
    have hx0 : x ≠ 0 := h0
    have hx1 : x ≠ 1 := h1
    rw [List.length_cons] at hb hl
    conv => lhs; unfold optG
    rw [if_neg hx0, if_neg hx1, if_neg hb]
    exact optG_more 40 41 _ (by rw [List.length_drop, List.length_cons]; omega) (by rw [List.length_drop, List.length_cons]; omega)
def optN (A : List Nat) : Bool := if 40 < A.length ∨ A.length % 4 ≠ 0 then false else optG 41 A
theorem opt27_run (f : FreeI orc) {v : Value} {A : List Nat} (hv : BAt σ v A) (hB : Byt A) (hn : 100 < n) (hQ : Q (.bool (optN A), σ)) : W (acall Tryd.prog gs orc (n + 1) 27 [v] σ) Q := by
  obtain ⟨a, c, rfl, hc⟩ := hv.len
  rw [W_start (m := 51) (keep := []) Tryd.func27 rfl (by kernel_rfl) (by kernel_rfl) (by first | rfl | assumption | exact f.h27) (by rfl)]
  by_cases h40 : 40 < A.length
  · have h40' : ((40 : Int) < (A.length : Int)) = True := eq_true (by omega)
    have e : optN A = false := by unfold optN; rw [if_pos (.inl h40)]
    rw [e] at hQ
    simp (maxSteps := 2000000) only [B0, B1, B2, B3, B4, B5, B6, B7, Gd, extV, Nat.reduceLT, Nat.reduceEqDiff, Nat.reduceBEq, Nat.reduceAdd, Nat.reduceSub, Nat.reduceMul, ↓reduceIte, reduceCtorEq, if_true, if_false, ite_true, ite_false, Int.reduceLT, Int.reduceLE, ptr, Tryd.len_23, Tryd.ia_23, Tryd.ld_5, h40', rs_tmp (show Tryd.f27.results = #[.tmp 2] from rfl)]
    exact hQ
  have h40' : ((40 : Int) < (A.length : Int)) = False := eq_false (by omega)
  by_cases h4 : A.length % 4 = 0
  · have h4' : ((0 : Int) < ((A.length % 4 : Nat) : Int)) = False := eq_false (by omega)
    have e : optN A = optG 41 A := by unfold optN; rw [if_neg (by omega)]
    rw [e] at hQ
    simp (maxSteps := 2000000) only [B0, B1, B2, B3, B4, B5, B6, B7, Gd, extV, Nat.reduceLT, Nat.reduceEqDiff, Nat.reduceBEq, Nat.reduceAdd, Nat.reduceSub, Nat.reduceMul, ↓reduceIte, reduceCtorEq, if_true, if_false, ite_true, ite_false, Int.reduceLT, Int.reduceLE, ptr, Tryd.len_23, Tryd.ia_23, Tryd.ld_5, h40',  rem4,  h4', rs_tmp (show Tryd.f27.results = #[.tmp 2] from rfl)]
    refine W_inv (fun k fr σ' => σ = σ' ∧ ∃ (t : Tr Value) (v : Value) (B : List Nat), fr = ⟨51, t⟩ ∧ t.get 0 = some v ∧ BAt σ v B ∧ Byt B ∧ B.length ≤ 40 ∧ k = B.length ∧ optG 41 B = optG 41 A) A.length (by omega)
      ⟨rfl, _, _, A, rfl, by simp [get_put, get_args], hv, hB, by omega, rfl, rfl⟩ ?_
    rintro k fr σ1 ⟨rfl, t, v, B, rfl, t0, hv, hB, hl, rfl, ho⟩
    clear hc
    obtain ⟨a, c, rfl, hc⟩ := hv.len
    by_cases h0 : 0 < B.length
    · have h0' : ((0 : Int) < (B.length : Int)) = True := eq_true (by omega)
      obtain ⟨b, o, cap, e, hb, hll⟩ := hv.rows h0
      injection e with e _ e3
      subst e e3
      have l0 := hll 0 h0
      simp only [Nat.add_zero] at l0
      have g0 := gd_lt hB 0
      have g1 := gd_lt hB 1
      by_cases z0 : gd B 0 = 0
      · have z0' : ((gd B 0 : Int) = 0) = True := eq_true (by omega)
        rw [← ho, optG_zero h0 z0] at hQ
        simp (maxSteps := 2000000) only [B0, B1, B2, B3, B4, B5, B6, B7, Gd, extV, Nat.reduceLT, Nat.reduceEqDiff, Nat.reduceBEq, Nat.reduceAdd, Nat.reduceSub, Nat.reduceMul, ↓reduceIte, reduceCtorEq, if_true, if_false, ite_true, ite_false, Int.reduceLT, Int.reduceLE, ptr, Tryd.len_23, Tryd.ia_23, Tryd.ld_5, t0,  h0',  h0,  l0,  Nat.zero_mul,  z0', rs_tmp (show Tryd.f27.results = #[.tmp 2] from rfl)]
        exact hQ
      · have z0' : ((gd B 0 : Int) = 0) = False := eq_false (by omega)
        by_cases z1 : gd B 0 = 1
        · have z1' : ((gd B 0 : Int) = 1) = True := eq_true (by omega)
          obtain ⟨v', hs, hv', _⟩ := slice_drop (kk := .i64) (t := 23) Tryd.underlying23 Tryd.size_5 hv (j := 1) (by omega)
          have hs : sliceOp Tryd.prog 23 (.slice (some ⟨b, o, none⟩) B.length c) (some (.int .i64 1)) none none σ = some v' := hs
          simp (maxSteps := 2000000) only [B0, B1, B2, B3, B4, B5, B6, B7, Gd, extV, Nat.reduceLT, Nat.reduceEqDiff, Nat.reduceBEq, Nat.reduceAdd, Nat.reduceSub, Nat.reduceMul, ↓reduceIte, reduceCtorEq, if_true, if_false, ite_true, ite_false, Int.reduceLT, Int.reduceLE, ptr, Tryd.len_23, Tryd.ia_23, Tryd.ld_5, t0,  h0',  h0,  l0,  Nat.zero_mul,  z0',  z1',  hs,  KInv_normal, rs_tmp (show Tryd.f27.results = #[.tmp 2] from rfl)]
          exact ⟨(B.drop 1).length, by rw [List.length_drop]; omega, _, v', B.drop 1, rfl, by simp [get_put], hv', hB.drop 1, by rw [List.length_drop]; omega, rfl, by rw [← optG_one h0 hl z1]; exact ho⟩
        · have z1' : ((gd B 0 : Int) = 1) = False := eq_false (by omega)
          by_cases s2 : B.length < 2
          · have s2' : ((B.length : Int) < 2) = True := eq_true (by omega)
            rw [← ho, optG_bad h0 z0 z1 (.inl s2)] at hQ
            simp (maxSteps := 2000000) only [B0, B1, B2, B3, B4, B5, B6, B7, Gd, extV, Nat.reduceLT, Nat.reduceEqDiff, Nat.reduceBEq, Nat.reduceAdd, Nat.reduceSub, Nat.reduceMul, ↓reduceIte, reduceCtorEq, if_true, if_false, ite_true, ite_false, Int.reduceLT, Int.reduceLE, ptr, Tryd.len_23, Tryd.ia_23, Tryd.ld_5, t0,  h0',  h0,  l0,  Nat.zero_mul,  z0',  z1',  s2', rs_tmp (show Tryd.f27.results = #[.tmp 2] from rfl)]
            exact hQ
          · have s2' : ((B.length : Int) < 2) = False := eq_false (by omega)
            have h1 : 1 < B.length := by omega
            have l1 := hll 1 h1
            by_cases y2 : gd B 1 < 2
            · have y2' : ((gd B 1 : Int) < 2) = True := eq_true (by omega)
              rw [← ho, optG_bad h0 z0 z1 (.inr (.inl y2))] at hQ
              simp (maxSteps := 2000000) only [B0, B1, B2, B3, B4, B5, B6, B7, Gd, extV, Nat.reduceLT, Nat.reduceEqDiff, Nat.reduceBEq, Nat.reduceAdd, Nat.reduceSub, Nat.reduceMul, ↓reduceIte, reduceCtorEq, if_true, if_false, ite_true, ite_false, Int.reduceLT, Int.reduceLE, ptr, Tryd.len_23, Tryd.ia_23, Tryd.ld_5, t0,  h0',  h0,  h1,  l0,  l1,  Nat.zero_mul,  z0',  z1',  s2',  y2', rs_tmp (show Tryd.f27.results = #[.tmp 2] from rfl)]
              exact hQ
            · have y2' : ((gd B 1 : Int) < 2) = False := eq_false (by omega)
              have hwy : IntKind.i64.wrap (gd B 1 : Int) = (gd B 1 : Int) := wrap64 (by omega) (by omega)
              by_cases yl : B.length < gd B 1
              · have yl' : ((B.length : Int) < (gd B 1 : Int)) = True := eq_true (by omega)
                rw [← ho, optG_bad h0 z0 z1 (.inr (.inr yl))] at hQ
                simp (maxSteps := 2000000) only [B0, B1, B2, B3, B4, B5, B6, B7, Gd, extV, Nat.reduceLT, Nat.reduceEqDiff, Nat.reduceBEq, Nat.reduceAdd, Nat.reduceSub, Nat.reduceMul, ↓reduceIte, reduceCtorEq, if_true, if_false, ite_true, ite_false, Int.reduceLT, Int.reduceLE, ptr, Tryd.len_23, Tryd.ia_23, Tryd.ld_5, t0,  h0',  h0,  h1,  l0,  l1,  Nat.zero_mul,  z0',  z1',  s2',  y2',  conv_int Tryd.underlying5 Tryd.underlying3,  hwy,  yl', rs_tmp (show Tryd.f27.results = #[.tmp 2] from rfl)]
                exact hQ
              · have yl' : ((B.length : Int) < (gd B 1 : Int)) = False := eq_false (by omega)
                obtain ⟨v', hs, hv', _⟩ := slice_drop (kk := .i64) (t := 23) Tryd.underlying23 Tryd.size_5 hv (j := gd B 1) (by omega)
                simp (maxSteps := 2000000) only [B0, B1, B2, B3, B4, B5, B6, B7, Gd, extV, Nat.reduceLT, Nat.reduceEqDiff, Nat.reduceBEq, Nat.reduceAdd, Nat.reduceSub, Nat.reduceMul, ↓reduceIte, reduceCtorEq, if_true, if_false, ite_true, ite_false, Int.reduceLT, Int.reduceLE, ptr, Tryd.len_23, Tryd.ia_23, Tryd.ld_5, t0,  h0',  h0,  h1,  l0,  l1,  Nat.zero_mul,  z0',  z1',  s2',  y2',  conv_int Tryd.underlying5 Tryd.underlying3,  hwy,  yl',  hs,  KInv_normal, rs_tmp (show Tryd.f27.results = #[.tmp 2] from rfl)]
                exact ⟨(B.drop (gd B 1)).length, by rw [List.length_drop]; omega, _, v', B.drop (gd B 1), rfl, by simp [get_put], hv', hB.drop _, by rw [List.length_drop]; omega, rfl, by rw [← optG_step h0 hl z0 z1 (by omega)]; exact ho⟩
    · have h0' : ((0 : Int) < (B.length : Int)) = False := eq_false (by omega)
      have hB0 : B = [] := List.eq_nil_of_length_eq_zero (by omega)
      rw [← ho, hB0, optG_nil] at hQ
      simp (maxSteps := 2000000) only [B0, B1, B2, B3, B4, B5, B6, B7, Gd, extV, Nat.reduceLT, Nat.reduceEqDiff, Nat.reduceBEq, Nat.reduceAdd, Nat.reduceSub, Nat.reduceMul, ↓reduceIte, reduceCtorEq, if_true, if_false, ite_true, ite_false, Int.reduceLT, Int.reduceLE, ptr, Tryd.len_23, Tryd.ia_23, Tryd.ld_5, t0,  h0', rs_tmp (show Tryd.f27.results = #[.tmp 2] from rfl)]
      exact hQ
  · have h4' : ((0 : Int) < ((A.length % 4 : Nat) : Int)) = True := eq_true (by omega)
    have e : optN A = false := by unfold optN; rw [if_pos (.inr h4)]
    rw [e] at hQ
    simp (maxSteps := 2000000) only [B0, B1, B2, B3, B4, B5, B6, B7, Gd, extV, Nat.reduceLT, Nat.reduceEqDiff, Nat.reduceBEq, Nat.reduceAdd, Nat.reduceSub, Nat.reduceMul, ↓reduceIte, reduceCtorEq, if_true, if_false, ite_true, ite_false, Int.reduceLT, Int.reduceLE, ptr, Tryd.len_23, Tryd.ia_23, Tryd.ld_5, h40',  rem4,  h4', rs_tmp (show Tryd.f27.results = #[.tmp 2] from rfl)]
    exact hQ
end Go.Proofs.YtongccpmdndcgaaDoor.Icm
end
/- Where a head begins; bits; bytes cloned. -/
section
set_option linter.all false
namespace Go.Proofs.YtongccpmdndcgaaDoor.Icm
open Go Go.AE Go.Proofs
set_option maxRecDepth 100000
set_option maxHeartbeats 1000000
attribute [local irreducible] Go.AE.Tr.put Go.AE.Tr.get
variable {gs : List Nat} {orc : Orc} {n : Nat} {σ : AHeap} {Q : Value × AHeap → Prop}

def hdN (A : List Nat) : Nat := 4 * (gd A 0 % 16)
def allN (A : List Nat) : Nat := wd A 2
def beginC (A : List Nat) : Nat := if A.length < 20 then 4 else if gd A 0 / 16 ≠ 4 ∨ hdN A < 20 then 5 else if A.length < hdN A then 4 else if allN A < hdN A then 5 else 0
theorem begin_ok {A : List Nat} (h : beginC A = 0) : 20 ≤ A.length ∧ 20 ≤ hdN A ∧ hdN A ≤ A.length ∧ hdN A ≤ allN A ∧ hdN A ≤ 60 ∧ gd A 0 / 16 = 4 := by
  have : gd A 0 % 16 < 16 := Nat.mod_lt _ (by omega)
  unfold beginC at h
  have e : hdN A = 4 * (gd A 0 % 16) := rfl
  split at h
  · cases h
  · split at h
    · cases h
    · split at h
      · cases h
      · split at h
        · cases h
        · omega
theorem begin_run (f : FreeI orc) {v : Value} {A : List Nat} (hv : BAt σ v A) (hB : Byt A) : W (acall Tryd.prog gs orc (n + 2) 30 [v] σ) Q = Q (.tuple #[.int .i64 ((if beginC A = 0 then hdN A else 0 : Nat) : Int), .int .i64 (beginC A : Int)], σ) := by
  refine W_of_all (fun Q hQ => ?_) Q
  obtain ⟨a, c, rfl, hc⟩ := hv.len
  have e : hdN A = 4 * (gd A 0 % 16) := rfl
  have e2 : allN A = wd A 2 := rfl
  rw [W_start (m := 37) (keep := []) Tryd.func30 rfl (by kernel_rfl) (by kernel_rfl) (by first | rfl | assumption | exact f.h30) (by rfl)]
  by_cases h20 : A.length < 20
  · have h20' : ((A.length : Int) < 20) = True := eq_true (by omega)
    have hbc : beginC A = 4 := by unfold beginC; rw [if_pos h20]
    rw [hbc] at hQ
    simp (maxSteps := 2000000) only [B0, B1, B2, B3, B4, B5, B6, B7, Gd, extV, Nat.reduceLT, Nat.reduceEqDiff, Nat.reduceBEq, Nat.reduceAdd, Nat.reduceSub, Nat.reduceMul, ↓reduceIte, reduceCtorEq, if_true, if_false, ite_true, ite_false, Int.reduceLT, Int.reduceLE, ptr, Tryd.len_23, Tryd.ia_23, Tryd.ld_5, callV_func Tryd.enters_31, h20', rs_two (show Tryd.f30.results = #[.tmp 2,  .tmp 3] from rfl)]
    exact hQ
  have h20' : ((A.length : Int) < 20) = False := eq_false (by omega)
  obtain ⟨b, o, cap, e', hb, hll⟩ := hv.rows (by omega)
  injection e' with e' _ e3
  subst e' e3
  have l0 := hll 0 (by omega)
  simp only [Nat.add_zero] at l0
  have c0 : 0 < A.length := by omega
  have g0 := gd_lt hB 0
  have hw0 : IntKind.i64.wrap ((gd A 0 % 16 : Nat) : Int) = ((gd A 0 % 16 : Nat) : Int) := wrap64 (by omega) (by omega)
  have hw4 : IntKind.i64.wrap (4 * ((gd A 0 % 16 : Nat) : Int)) = (hdN A : Int) := by rw [wrap64 (by omega) (by omega), e]; omega
  by_cases hf : gd A 0 / 16 = 4
  · have hf' : (((gd A 0 / 16 : Nat) : Int) = 4) = True := eq_true (by omega)
    by_cases h5 : hdN A < 20
    · have h5' : ((hdN A : Int) < 20) = True := eq_true (by omega)
      have hbc : beginC A = 5 := by unfold beginC; rw [if_neg h20, if_pos (.inr h5)]
      rw [hbc] at hQ
      simp (maxSteps := 2000000) only [B0, B1, B2, B3, B4, B5, B6, B7, Gd, extV, Nat.reduceLT, Nat.reduceEqDiff, Nat.reduceBEq, Nat.reduceAdd, Nat.reduceSub, Nat.reduceMul, ↓reduceIte, reduceCtorEq, if_true, if_false, ite_true, ite_false, Int.reduceLT, Int.reduceLE, ptr, Tryd.len_23, Tryd.ia_23, Tryd.ld_5, callV_func Tryd.enters_31, hf',  h5', h20',  c0,  Nat.zero_mul,  l0,  and15_8 g0,  conv_int Tryd.underlying5 Tryd.underlying3,  hw0,  hw4,  shr4_8, rs_two (show Tryd.f30.results = #[.tmp 2,  .tmp 3] from rfl)]
      exact hQ
    · have h5' : ((hdN A : Int) < 20) = False := eq_false (by omega)
      by_cases hl : A.length < hdN A
      · have hl' : ((A.length : Int) < (hdN A : Int)) = True := eq_true (by omega)
        have hbc : beginC A = 4 := by unfold beginC; rw [if_neg h20, if_neg (by omega), if_pos hl]
        rw [hbc] at hQ
        simp (maxSteps := 2000000) only [B0, B1, B2, B3, B4, B5, B6, B7, Gd, extV, Nat.reduceLT, Nat.reduceEqDiff, Nat.reduceBEq, Nat.reduceAdd, Nat.reduceSub, Nat.reduceMul, ↓reduceIte, reduceCtorEq, if_true, if_false, ite_true, ite_false, Int.reduceLT, Int.reduceLE, ptr, Tryd.len_23, Tryd.ia_23, Tryd.ld_5, callV_func Tryd.enters_31, hf',  h5',  hl', h20',  c0,  Nat.zero_mul,  l0,  and15_8 g0,  conv_int Tryd.underlying5 Tryd.underlying3,  hw0,  hw4,  shr4_8, rs_two (show Tryd.f30.results = #[.tmp 2,  .tmp 3] from rfl)]
        exact hQ
      · have hl' : ((A.length : Int) < (hdN A : Int)) = False := eq_false (by omega)
        obtain ⟨v', hs, hv', _⟩ := slice_drop (kk := .i64) (t := 23) Tryd.underlying23 Tryd.size_5 hv (j := 2) (by omega)
        have hs : sliceOp Tryd.prog 23 (.slice (some ⟨b, o, none⟩) A.length c) (some (.int .i64 2)) none none σ = some v' := hs
        have e4 : wd (A.drop 2) 0 = allN A := wd_drop
        have r2 : ∀ (Q' : Value × AHeap → Prop), W (acall Tryd.prog gs orc (n + 1) 31 [v'] σ) Q' = Q' (.int .u16 (allN A : Int), σ) := fun Q' => by rw [word31_run f hv' (hB.drop 2) (by rw [List.length_drop]; omega), e4]
        have hwd := wd_lt hB 2
        have hwa : IntKind.i64.wrap (allN A : Int) = (allN A : Int) := wrap64 (by omega) (by omega)
        by_cases ha : allN A < hdN A
        · have ha' : ((allN A : Int) < (hdN A : Int)) = True := eq_true (by omega)
          have hbc : beginC A = 5 := by unfold beginC; rw [if_neg h20, if_neg (by omega), if_neg hl, if_pos ha]
          rw [hbc] at hQ
          simp (maxSteps := 2000000) only [B0, B1, B2, B3, B4, B5, B6, B7, Gd, extV, Nat.reduceLT, Nat.reduceEqDiff, Nat.reduceBEq, Nat.reduceAdd, Nat.reduceSub, Nat.reduceMul, ↓reduceIte, reduceCtorEq, if_true, if_false, ite_true, ite_false, Int.reduceLT, Int.reduceLE, ptr, Tryd.len_23, Tryd.ia_23, Tryd.ld_5, callV_func Tryd.enters_31, hf',  h5',  hl',  hs,  r2,  conv_int Tryd.underlying35 Tryd.underlying3,  hwa,  ha', h20',  c0,  Nat.zero_mul,  l0,  and15_8 g0,  conv_int Tryd.underlying5 Tryd.underlying3,  hw0,  hw4,  shr4_8, rs_two (show Tryd.f30.results = #[.tmp 2,  .tmp 3] from rfl)]
          exact hQ
        · have ha' : ((allN A : Int) < (hdN A : Int)) = False := eq_false (by omega)
          have hbc : beginC A = 0 := by unfold beginC; rw [if_neg h20, if_neg (by omega), if_neg hl, if_neg ha]
          rw [hbc, if_pos rfl] at hQ
          simp (maxSteps := 2000000) only [B0, B1, B2, B3, B4, B5, B6, B7, Gd, extV, Nat.reduceLT, Nat.reduceEqDiff, Nat.reduceBEq, Nat.reduceAdd, Nat.reduceSub, Nat.reduceMul, ↓reduceIte, reduceCtorEq, if_true, if_false, ite_true, ite_false, Int.reduceLT, Int.reduceLE, ptr, Tryd.len_23, Tryd.ia_23, Tryd.ld_5, callV_func Tryd.enters_31, hf',  h5',  hl',  hs,  r2,  conv_int Tryd.underlying35 Tryd.underlying3,  hwa,  ha', h20',  c0,  Nat.zero_mul,  l0,  and15_8 g0,  conv_int Tryd.underlying5 Tryd.underlying3,  hw0,  hw4,  shr4_8, rs_two (show Tryd.f30.results = #[.tmp 2,  .tmp 3] from rfl)]
          exact hQ
  · have hf' : (((gd A 0 / 16 : Nat) : Int) = 4) = False := eq_false (by omega)
    have hbc : beginC A = 5 := by unfold beginC; rw [if_neg h20, if_pos (.inl hf)]
    rw [hbc] at hQ
    simp (maxSteps := 2000000) only [B0, B1, B2, B3, B4, B5, B6, B7, Gd, extV, Nat.reduceLT, Nat.reduceEqDiff, Nat.reduceBEq, Nat.reduceAdd, Nat.reduceSub, Nat.reduceMul, ↓reduceIte, reduceCtorEq, if_true, if_false, ite_true, ite_false, Int.reduceLT, Int.reduceLE, ptr, Tryd.len_23, Tryd.ia_23, Tryd.ld_5, callV_func Tryd.enters_31, hf', h20',  c0,  Nat.zero_mul,  l0,  and15_8 g0,  conv_int Tryd.underlying5 Tryd.underlying3,  hw0,  hw4,  shr4_8, rs_two (show Tryd.f30.results = #[.tmp 2,  .tmp 3] from rfl)]
    exact hQ
theorem and_bit (v i : Nat) : (v &&& 2 ^ i = 0) ↔ ¬ (v / 2 ^ i % 2 = 1) := by
  have ht : v.testBit i = decide (v / 2 ^ i % 2 = 1) := Nat.testBit_eq_decide_div_mod_eq
  constructor
  · intro h e
    have h1 : (v &&& 2 ^ i).testBit i = true := by rw [Nat.testBit_and, ht, Nat.testBit_two_pow]; simp [e]
    rw [h] at h1
    simp at h1
  · intro e
    apply Nat.eq_of_testBit_eq
    intro j
    rw [Nat.testBit_and, Nat.testBit_two_pow, Nat.zero_testBit]
    by_cases hj : i = j
    · subst hj
      rw [ht]
      simp [e]
    · simp [hj]
def bitB (v i : Nat) : Bool := decide (v / 2 ^ i % 2 = 1)
theorem is_run (f : FreeI orc) {b w i : Nat} (hw : w < 65536) (hi : i < 16) (hv : VarAt σ b [.int .u16 (w : Int)]) : W (acall Tryd.prog gs orc (n + 1) 32 [.int .u16 ((2 ^ i : Nat) : Int), pt b] σ) Q = Q (.bool (bitB w i), σ) := by
  refine W_of_all (fun Q hQ => ?_) Q
  have l0 : ld σ b 0 = some (.int .u16 (w : Int)) := hv.ld rfl
  have h2 : 2 ^ i < 65536 := by have : (2 : Nat) ^ i < 2 ^ 16 := Nat.pow_lt_pow_right (by omega) hi; omega
  rw [W_start (m := 8) (keep := []) Tryd.func32 rfl (by kernel_rfl) (by kernel_rfl) (by first | rfl | assumption | exact f.h32) (by rfl)]
  have hd : (!decide (((w &&& 2 ^ i : Nat) : Int) = 0)) = bitB w i := by
    unfold bitB
    have := and_bit w i
    by_cases h : w / 2 ^ i % 2 = 1
    · rw [decide_eq_true h, decide_eq_false]; rfl
      intro e; exact this.1 (by omega) h
    · rw [decide_eq_false h, decide_eq_true]; rfl
      rw [this.2 h]; rfl
  simp (maxSteps := 2000000) only [B0, B1, B2, B3, B4, B5, B6, B7, Gd, extV, Nat.reduceLT, Nat.reduceEqDiff, Nat.reduceBEq, Nat.reduceAdd, Nat.reduceSub, Nat.reduceMul, ↓reduceIte, reduceCtorEq, if_true, if_false, ite_true, ite_false, Int.reduceLT, Int.reduceLE, ptr, Tryd.ld_35, l0,  and_16 hw h2,  hd, rs_tmp (show Tryd.f32.results = #[.tmp 3] from rfl)]
  exact hQ
theorem clone_run (f : FreeI orc) {v : Value} {A : List Nat} (h : BAt σ v A) (hl : A.length ≤ 1048576)
    (hQ : ∀ σ' v', BAt σ' v' A → (∀ b ∈ blks v', σ.next ≤ b) → Same σ σ' [] → Q (v', σ')) : W (acall Tryd.prog gs orc (n + 1) 26 [v] σ) Q := by
  obtain ⟨a, c, rfl, hc⟩ := h.len
  cases a with
  | none =>
    have hA : A = [] ∧ c = 0 := by
      rcases h with ⟨e, q⟩ | ⟨a, j, e, _, _⟩ | ⟨b, o, cap, g, e, _⟩
      · injection e with _ e1 e2; exact ⟨q, e2⟩
      · cases e
      · cases e
    obtain ⟨rfl, rfl⟩ := hA
    rw [W_start (m := 8) (keep := []) Tryd.func26 rfl (by kernel_rfl) (by kernel_rfl) (by first | rfl | assumption | exact f.h26) (by rfl)]
    simp (maxSteps := 2000000) only [B0, B1, B2, B3, B4, B5, B6, B7, Gd, extV, Nat.reduceLT, Nat.reduceEqDiff, Nat.reduceBEq, Nat.reduceAdd, Nat.reduceSub, Nat.reduceMul, ↓reduceIte, reduceCtorEq, if_true, if_false, ite_true, ite_false, Int.reduceLT, Int.reduceLE, ptr, bin_nilss Tryd.underlying23, rs_tmp (show Tryd.f26.results = #[.tmp 2] from rfl)]
    exact hQ σ _ (.inl ⟨rfl, rfl⟩) nofun (.refl _ _)
  | some a =>
    obtain ⟨σ1, e1, hS1, hn1⟩ : ∃ σ1, (newCells σ 5 []).2 = σ1 ∧ Same σ σ1 [] ∧ σ1.next = σ.next + 1 := ⟨_, rfl, .newCells _ _ _ _, rfl⟩
    have h1 := h.same hS1 nofun
    have hz : SlAt σ1 5 1 encB (.slice (some ⟨σ.next, 0, none⟩) 0 0) [] := by rw [← e1]; exact SlAt.new encBOk σ 5 false []
    obtain ⟨v2, σ2, t2, hv2, hS2, hb2⟩ := append_spec encBOk hz A (by simpa using hl)
    have hf := h1.first encBOk
    have bs : ∀ {τ : AHeap}, buildSliceV Tryd.prog 23 0 [] τ = some (.slice (some ⟨τ.next, 0, none⟩) 0 0, (newCells τ 5 []).2) := buildSlice_of Tryd.underlying23 Tryd.elem_5 (by decide) rfl
    have t2' : appendCells 5 1 (some ⟨σ.next, 0, none⟩) 0 0 A.length (A.flatMap encB) σ1 = some (v2, σ2) := t2
    rw [W_start (m := 8) (keep := []) Tryd.func26 rfl (by kernel_rfl) (by kernel_rfl) (by first | rfl | assumption | exact f.h26) (by rfl)]
    simp (maxSteps := 2000000) only [B0, B1, B2, B3, B4, B5, B6, B7, Gd, extV, Nat.reduceLT, Nat.reduceEqDiff, Nat.reduceBEq, Nat.reduceAdd, Nat.reduceSub, Nat.reduceMul, ↓reduceIte, reduceCtorEq, if_true, if_false, ite_true, ite_false, Int.reduceLT, Int.reduceLE, ptr, bin_nils Tryd.underlying23,  bs,  e1,  append_eq Tryd.underlying23 Tryd.underlying23 Tryd.elem_5 hf,  t2', rs_tmp (show Tryd.f26.results = #[.tmp 2] from rfl)]
    refine hQ σ2 v2 hv2 (fun b hb => ?_) ((hS1.app hS2).old fun b hb => by simp [blks] at hb; exact .inr (by omega))
    rcases hb2 b hb with q | q
    · simp [blks] at q; omega
    · omega
end Go.Proofs.YtongccpmdndcgaaDoor.Icm
end
/- inet.Cut. -/
section
set_option linter.all false
namespace Go.Proofs.YtongccpmdndcgaaDoor.Icm
open Go Go.AE Go.Proofs
set_option maxRecDepth 100000
set_option maxHeartbeats 4000000
attribute [local irreducible] Go.AE.Tr.put Go.AE.Tr.get
variable {gs : List Nat} {orc : Orc} {n : Nat} {σ : AHeap} {Q : Value × AHeap → Prop}

def optL (A : List Nat) : List Nat := (A.take (hdN A)).drop 20
def bodyL (A : List Nat) : List Nat := (A.take (min (allN A) A.length)).drop (hdN A)
def cutC (A : List Nat) : Nat := if beginC A ≠ 0 then beginC A else if sumN (A.take (hdN A)) ≠ 0 then 21 else if optN (optL A) = false then 5 else 0
def zH : List Value := [.int .u8 0, .int .u8 0, .int .u8 0, .int .u16 0, .bool false, .bool false, .bool false, .int .i64 0, .int .u32 0, .int .u32 0, .slice none 0 0]
def headL (A : List Nat) (o : Value) : List Value := [.int .u8 (gd A 1 : Int), .int .u8 (gd A 8 : Int), .int .u8 (gd A 9 : Int), .int .u16 (wd A 4 : Int), .bool (bitB (wd A 6) 15), .bool (bitB (wd A 6) 14), .bool (bitB (wd A 6) 13), .int .i64 ((wd A 6 % 8192 : Nat) : Int), .int .u32 (ad A 12 : Int), .int .u32 (ad A 16 : Int), o]
theorem zst39 : ([.int .u8 0, .int .u8 0, .int .u8 0, .int .u16 0, .bool false, .bool false, .bool false, .int .i64 0, .int .u32 0, .int .u32 0, .slice none 0 0] : List Value) = zH := rfl
theorem zH_size : zH.toArray.size = 11 := rfl
theorem zH_list : zH.toArray.toList = zH := rfl
theorem zH_single : ∀ v ∈ zH, single v = true := by intro v hv; simp [zH] at hv; rcases hv with rfl | rfl | rfl | rfl | rfl | rfl <;> rfl
theorem head_size {A : List Nat} {o : Value} : (headL A o).toArray.size = 11 := rfl
theorem head_list {A : List Nat} {o : Value} : (headL A o).toArray.toList = headL A o := rfl
theorem head_single {A : List Nat} {a : Option Addr} {m c : Nat} : ∀ v ∈ headL A (.slice a m c), single v = true := by
  intro v hv
  simp [headL] at hv
  rcases hv with rfl | rfl | rfl | rfl | rfl | rfl | rfl | rfl | rfl | rfl | rfl <;> rfl
theorem same_head {A : List Nat} {a : Option Addr} {m c : Nat} : sameV 6 (.agg (headL A (.slice a m c)).toArray) (.agg (headL A (.slice a m c)).toArray) = true := by simp [sameV, headL]
theorem bld39z : build' Tryd.prog 39 [] = some (.agg zH.toArray) := by kernel_rfl
theorem bld39 {x0 x1 x2 x3 x7 x8 x9 : Int} {x4 x5 x6 : Bool} : build' Tryd.prog 39 [(0, .int .u8 x0), (1, .int .u8 x1), (2, .int .u8 x2), (3, .int .u16 x3), (4, .bool x4), (5, .bool x5), (6, .bool x6), (7, .int .i64 x7), (8, .int .u32 x8), (9, .int .u32 x9)] = some (.agg #[.int .u8 x0, .int .u8 x1, .int .u8 x2, .int .u16 x3, .bool x4, .bool x5, .bool x6, .int .i64 x7, .int .u32 x8, .int .u32 x9, .slice none 0 0]) := by kernel_rfl
theorem hd39 {A : List Nat} {o : Value} : (#[.int .u8 (gd A 1 : Int), .int .u8 (gd A 8 : Int), .int .u8 (gd A 9 : Int), .int .u16 (wd A 4 : Int), .bool (bitB (wd A 6) 15), .bool (bitB (wd A 6) 14), .bool (bitB (wd A 6) 13), .int .i64 ((wd A 6 % 8192 : Nat) : Int), .int .u32 (ad A 12 : Int), .int .u32 (ad A 16 : Int), o] : Array Value) = (headL A o).toArray := rfl
theorem ad_drop {A : List Nat} {j : Nat} : ad (A.drop j) 0 = ad A j := by unfold ad; rw [wd_drop, wd_drop]; rfl
theorem optL_len (A : List Nat) : ((A.take (hdN A)).drop 20).length = (optL A).length := rfl
theorem cut_run (f : FreeI orc) {v : Value} {A : List Nat} (hv : BAt σ v A) (hB : Byt A) (hl : A.length ≤ 60000) (hn : A.length + 200 < n)
    (hE : ∀ σ', Same σ σ' [] → cutC A ≠ 0 → Q (.tuple #[.agg zH.toArray, .slice none 0 0, .int .i64 (cutC A : Int)], σ'))
    (hQ : ∀ σ' o body, cutC A = 0 → BAt σ' o (optL A) → BAt σ' body (bodyL A) → (∀ b ∈ blks o, σ.next ≤ b) → (∀ b ∈ blks body, σ.next ≤ b) → Same σ σ' [] → Q (.tuple #[.agg (headL A o).toArray, body, .int .i64 0], σ')) :
    W (acall Tryd.prog gs orc (n + 3) 23 [v] σ) Q := by
  obtain ⟨σ1, e1, hS1, v1, hn1⟩ := AE.oneVar σ 39 zH false
  have hv1 := SlAt.same hv hS1 nofun
  rw [W_start (m := 81) (keep := [10, 12]) Tryd.func23 rfl (by kernel_rfl) (by kernel_rfl) (by first | rfl | assumption | exact f.h23) (by rfl)]
  simp (maxSteps := 2000000) only [B0, B1, B2, B3, B4, B5, B6, B7, Gd, extV, Nat.reduceLT, Nat.reduceEqDiff, Nat.reduceBEq, Nat.reduceAdd, Nat.reduceSub, Nat.reduceMul, ↓reduceIte, reduceCtorEq, if_true, if_false, ite_true, ite_false, Int.reduceLT, Int.reduceLE, ptr, allocV_zero Tryd.zero_39, callV_func Tryd.enters_30, Tryd.st_39, callV_func Tryd.enters_21, callV_func Tryd.enters_27, callV_func Tryd.enters_31, allocV_zero Tryd.zero_35, Tryd.st_35, Tryd.ia_23, Tryd.ld_5, Tryd.ld_35, callV_func Tryd.enters_33, callV_func Tryd.enters_26, Tryd.fa_39_10, Tryd.st_23, Tryd.ld_39, Tryd.len_23, zst39,  Value.cells,  zH_list,  e1,  begin_run f hv1 hB, rs_ctt (show Tryd.f23.results = #[.cell 2 39,  .tmp 3,  .tmp 4] from rfl)]
  by_cases hb : beginC A = 0
  · obtain ⟨b1, b2, b3, b4, b5, b6⟩ := begin_ok hb
    have hb' : (((0 : Nat) : Int) = 0) = True := eq_true rfl
    obtain ⟨va, sa, ha, _⟩ := slice_take (kk := .i64) (t := 23) Tryd.underlying23 Tryd.size_5 hv1 (j := hdN A) (by omega)
    have hlt : (A.take (hdN A)).length = hdN A := by rw [List.length_take]; omega
    simp (maxSteps := 2000000) only [B0, B1, B2, B3, B4, B5, B6, B7, Gd, extV, Nat.reduceLT, Nat.reduceEqDiff, Nat.reduceBEq, Nat.reduceAdd, Nat.reduceSub, Nat.reduceMul, ↓reduceIte, reduceCtorEq, if_true, if_false, ite_true, ite_false, Int.reduceLT, Int.reduceLE, ptr, allocV_zero Tryd.zero_39, callV_func Tryd.enters_30, Tryd.st_39, callV_func Tryd.enters_21, callV_func Tryd.enters_27, callV_func Tryd.enters_31, allocV_zero Tryd.zero_35, Tryd.st_35, Tryd.ia_23, Tryd.ld_5, Tryd.ld_35, callV_func Tryd.enters_33, callV_func Tryd.enters_26, Tryd.fa_39_10, Tryd.st_23, Tryd.ld_39, Tryd.len_23, hb,  if_true,  Int.reduceEq,  Int.cast_ofNat_Int,  sa, rs_ctt (show Tryd.f23.results = #[.cell 2 39,  .tmp 3,  .tmp 4] from rfl)]
    refine sum21_run f ha (hB.take _) (by omega) (by omega) ?_
    by_cases hs : sumN (A.take (hdN A)) = 0
    · obtain ⟨vb, sb, hbb, _⟩ := slice_both (k1 := .i64) (k2 := .i64) (t := 23) (by omega) Tryd.underlying23 Tryd.size_5 hv1 (i := 20) (j := hdN A) (by omega) (by omega)
      have sb : sliceOp Tryd.prog 23 v (some (.int .i64 20)) (some (.int .i64 (hdN A : Int))) none σ1 = some vb := sb
      simp (maxSteps := 2000000) only [B0, B1, B2, B3, B4, B5, B6, B7, Gd, extV, Nat.reduceLT, Nat.reduceEqDiff, Nat.reduceBEq, Nat.reduceAdd, Nat.reduceSub, Nat.reduceMul, ↓reduceIte, reduceCtorEq, if_true, if_false, ite_true, ite_false, Int.reduceLT, Int.reduceLE, ptr, allocV_zero Tryd.zero_39, callV_func Tryd.enters_30, Tryd.st_39, callV_func Tryd.enters_21, callV_func Tryd.enters_27, callV_func Tryd.enters_31, allocV_zero Tryd.zero_35, Tryd.st_35, Tryd.ia_23, Tryd.ld_5, Tryd.ld_35, callV_func Tryd.enters_33, callV_func Tryd.enters_26, Tryd.fa_39_10, Tryd.st_23, Tryd.ld_39, Tryd.len_23, hs,  Int.cast_ofNat_Int,  Int.reduceEq,  sb, rs_ctt (show Tryd.f23.results = #[.cell 2 39,  .tmp 3,  .tmp 4] from rfl)]
      refine opt27_run f hbb ((hB.take _).drop _) (by omega) ?_
      cases ho : optN ((A.take (hdN A)).drop 20) with
      | false =>
        have hcc : cutC A = 5 := by unfold cutC optL; rw [if_neg (by omega), if_neg (by omega), if_pos ho]
        obtain ⟨σ9, t9, v9, hS9, hn9⟩ := v1.store (vs' := zH) rfl zH_single
        have l9 : ldCells σ9 σ.next 0 11 = some zH := v9.ldCells
        simp (maxSteps := 2000000) only [B0, B1, B2, B3, B4, B5, B6, B7, Gd, extV, Nat.reduceLT, Nat.reduceEqDiff, Nat.reduceBEq, Nat.reduceAdd, Nat.reduceSub, Nat.reduceMul, ↓reduceIte, reduceCtorEq, if_true, if_false, ite_true, ite_false, Int.reduceLT, Int.reduceLE, ptr, allocV_zero Tryd.zero_39, callV_func Tryd.enters_30, Tryd.st_39, callV_func Tryd.enters_21, callV_func Tryd.enters_27, callV_func Tryd.enters_31, allocV_zero Tryd.zero_35, Tryd.st_35, Tryd.ia_23, Tryd.ld_5, Tryd.ld_35, callV_func Tryd.enters_33, callV_func Tryd.enters_26, Tryd.fa_39_10, Tryd.st_23, Tryd.ld_39, Tryd.len_23, bld39z,  Value.cells,  zH_size,  zH_list,  t9,  l9, rs_ctt (show Tryd.f23.results = #[.cell 2 39,  .tmp 3,  .tmp 4] from rfl)]
        have := hE σ9 ((hS1.app hS9).old fun b hb => by simp at hb; exact .inr (by omega))
        rw [hcc] at this
        exact this (by omega)
      | true =>
        have hcc : cutC A = 0 := by unfold cutC optL; rw [if_neg (by omega), if_neg (by omega), if_neg (by rw [ho]; simp)]
        obtain ⟨v6, s6, h6, _⟩ := slice_drop (kk := .i64) (t := 23) Tryd.underlying23 Tryd.size_5 hv1 (j := 6) (by omega)
        have s6 : sliceOp Tryd.prog 23 v (some (.int .i64 6)) none none σ1 = some v6 := s6
        have r6 : ∀ (Q' : Value × AHeap → Prop), W (acall Tryd.prog gs orc (n + 2) 31 [v6] σ1) Q' = Q' (.int .u16 (wd A 6 : Int), σ1) := fun Q' => by rw [word31_run f h6 (hB.drop 6) (by rw [List.length_drop]; omega), wd_drop]
        obtain ⟨σ2, σ3, e2, t3, hS3, v3, hn3, _⟩ := AE.newVar σ1 35 [.int .u16 0] [.int .u16 (wd A 6 : Int)] rfl (by intro v hv; simp at hv; subst hv; rfl)
        have hv3 : BAt σ3 v A := SlAt.same hv1 hS3 nofun
        obtain ⟨b, o, cap, rfl, hbl, hll⟩ := BAt.rows hv3 (by omega)
        have l1 := hll 1 (by omega)
        have l8 := hll 8 (by omega)
        have l9 := hll 9 (by omega)
        have c1 : 1 < A.length := by omega
        have c8 : 8 < A.length := by omega
        have c9 : 9 < A.length := by omega
        have x8 : idx (.int .i64 8) A.length = some 8 := idx_at 8 c8
        have x9 : idx (.int .i64 9) A.length = some 9 := idx_at 9 c9
        have w6 := wd_lt hB 6
        obtain ⟨v4, s4, h4, _⟩ := slice_drop (kk := .i64) (t := 23) Tryd.underlying23 Tryd.size_5 hv3 (j := 4) (by omega)
        have s4 : sliceOp Tryd.prog 23 (.slice (some ⟨b, o, none⟩) A.length cap) (some (.int .i64 4)) none none σ3 = some v4 := s4
        obtain ⟨a4, k4, rfl, _⟩ := h4.len
        have r4 : ∀ (Q' : Value × AHeap → Prop), W (acall Tryd.prog gs orc (n + 2) 31 [.slice a4 (A.drop 4).length k4] σ3) Q' = Q' (.int .u16 (wd A 4 : Int), σ3) := fun Q' => by rw [word31_run f h4 (hB.drop 4) (by rw [List.length_drop]; omega), wd_drop]
        obtain ⟨v12, s12, h12, _⟩ := slice_drop (kk := .i64) (t := 23) Tryd.underlying23 Tryd.size_5 hv3 (j := 12) (by omega)
        have s12 : sliceOp Tryd.prog 23 (.slice (some ⟨b, o, none⟩) A.length cap) (some (.int .i64 12)) none none σ3 = some v12 := s12
        obtain ⟨a12, k12, rfl, _⟩ := h12.len
        have r12 : ∀ (Q' : Value × AHeap → Prop), W (acall Tryd.prog gs orc (n + 2) 33 [.slice a12 (A.drop 12).length k12] σ3) Q' = Q' (.int .u32 (ad A 12 : Int), σ3) := fun Q' => by rw [addr_run f h12 (hB.drop 12) (by rw [List.length_drop]; omega), ad_drop]
        obtain ⟨v16, s16, h16, _⟩ := slice_drop (kk := .i64) (t := 23) Tryd.underlying23 Tryd.size_5 hv3 (j := 16) (by omega)
        have s16 : sliceOp Tryd.prog 23 (.slice (some ⟨b, o, none⟩) A.length cap) (some (.int .i64 16)) none none σ3 = some v16 := s16
        obtain ⟨a16, k16, rfl, _⟩ := h16.len
        have r16 : ∀ (Q' : Value × AHeap → Prop), W (acall Tryd.prog gs orc (n + 2) 33 [.slice a16 (A.drop 16).length k16] σ3) Q' = Q' (.int .u32 (ad A 16 : Int), σ3) := fun Q' => by rw [addr_run f h16 (hB.drop 16) (by rw [List.length_drop]; omega), ad_drop]
        have i15 : ∀ (Q' : Value × AHeap → Prop), W (acall Tryd.prog gs orc (n + 2) 32 [.int .u16 32768, pt σ1.next] σ3) Q' = Q' (.bool (bitB (wd A 6) 15), σ3) := fun Q' => is_run (i := 15) f w6 (by omega) v3
        have i14 : ∀ (Q' : Value × AHeap → Prop), W (acall Tryd.prog gs orc (n + 2) 32 [.int .u16 16384, pt σ1.next] σ3) Q' = Q' (.bool (bitB (wd A 6) 14), σ3) := fun Q' => is_run (i := 14) f w6 (by omega) v3
        have i13 : ∀ (Q' : Value × AHeap → Prop), W (acall Tryd.prog gs orc (n + 2) 32 [.int .u16 8192, pt σ1.next] σ3) Q' = Q' (.bool (bitB (wd A 6) 13), σ3) := fun Q' => is_run (i := 13) f w6 (by omega) v3
        have lw : ld σ3 σ1.next 0 = some (.int .u16 (wd A 6 : Int)) := v3.ld rfl
        have hwo : IntKind.i64.wrap ((wd A 6 % 8192 : Nat) : Int) = ((wd A 6 % 8192 : Nat) : Int) := wrap64 (by omega) (by omega)
        obtain ⟨σ4, t4, v4', hS4, hn4⟩ := (v1.same hS3 nofun).store (vs' := headL A (.slice none 0 0)) rfl head_single
        simp (maxSteps := 2000000) only [B0, B1, B2, B3, B4, B5, B6, B7, Gd, extV, Nat.reduceLT, Nat.reduceEqDiff, Nat.reduceBEq, Nat.reduceAdd, Nat.reduceSub, Nat.reduceMul, ↓reduceIte, reduceCtorEq, if_true, if_false, ite_true, ite_false, Int.reduceLT, Int.reduceLE, ptr, allocV_zero Tryd.zero_39, callV_func Tryd.enters_30, Tryd.st_39, callV_func Tryd.enters_21, callV_func Tryd.enters_27, callV_func Tryd.enters_31, allocV_zero Tryd.zero_35, Tryd.st_35, Tryd.ia_23, Tryd.ld_5, Tryd.ld_35, callV_func Tryd.enters_33, callV_func Tryd.enters_26, Tryd.fa_39_10, Tryd.st_23, Tryd.ld_39, Tryd.len_23, ho,  Bool.not_true,  s6,  r6,  e2,  t3,  Value.cells,  List.size_toArray,  List.map_toArray, rs_ctt (show Tryd.f23.results = #[.cell 2 39,  .tmp 3,  .tmp 4] from rfl)]
        refine Eq.mpr (W_retold (ps := [(11, 2), (11, 5), (11, 8), (11, 18), (11, 20), (11, 22), (11, 25), (13, 2), (13, 5), (13, 8), (13, 18), (13, 20), (13, 22), (13, 25), (15, 2), (15, 5), (15, 8), (15, 18), (15, 20), (15, 22), (15, 25), (17, 2), (17, 5), (17, 8), (17, 18), (17, 20), (17, 22), (17, 25), (23, 2), (23, 5), (23, 8), (23, 18), (23, 20), (23, 25), (26, 2), (26, 5), (26, 8), (26, 18), (26, 20)]) (by kernel_rfl) (by kernel_rfl) (by simp)) ?_
        simp (maxSteps := 2000000) only [B0, B1, B2, B3, B4, B5, B6, B7, Gd, extV, Nat.reduceLT, Nat.reduceEqDiff, Nat.reduceBEq, Nat.reduceAdd, Nat.reduceSub, Nat.reduceMul, ↓reduceIte, reduceCtorEq, if_true, if_false, ite_true, ite_false, Int.reduceLT, Int.reduceLE, ptr, allocV_zero Tryd.zero_39, callV_func Tryd.enters_30, Tryd.st_39, callV_func Tryd.enters_21, callV_func Tryd.enters_27, callV_func Tryd.enters_31, allocV_zero Tryd.zero_35, Tryd.st_35, Tryd.ia_23, Tryd.ld_5, Tryd.ld_35, callV_func Tryd.enters_33, callV_func Tryd.enters_26, Tryd.fa_39_10, Tryd.st_23, Tryd.ld_39, Tryd.len_23, c1,  x8,  x9,  l1,  l8,  l9,  s4,  r4,  s12,  r12,  s16,  r16,  i15,  i14,  i13,  callV_func Tryd.enters_32,  lw,  and8191_16 w6,  conv_int Tryd.underlying35 Tryd.underlying3,  hwo,  bld39,  hd39,  Value.cells,  head_size,  head_list,  t4, rs_ctt (show Tryd.f23.results = #[.cell 2 39,  .tmp 3,  .tmp 4] from rfl)]
        have hv4 : BAt σ4 _ A := SlAt.same hv3 hS4 (fun x hx w => by simp [blks] at hx w; have := hv.lt b (by simp [blks]); omega)
        obtain ⟨vo, so, ho4, _⟩ := slice_both (k1 := .i64) (k2 := .i64) (t := 23) (by omega) Tryd.underlying23 Tryd.size_5 hv4 (i := 20) (j := hdN A) (by omega) (by omega)
        have so : sliceOp Tryd.prog 23 (.slice (some ⟨b, o, none⟩) A.length cap) (some (.int .i64 20)) (some (.int .i64 (hdN A : Int))) none σ4 = some vo := so
        simp (maxSteps := 2000000) only [B0, B1, B2, B3, B4, B5, B6, B7, Gd, extV, Nat.reduceLT, Nat.reduceEqDiff, Nat.reduceBEq, Nat.reduceAdd, Nat.reduceSub, Nat.reduceMul, ↓reduceIte, reduceCtorEq, if_true, if_false, ite_true, ite_false, Int.reduceLT, Int.reduceLE, ptr, allocV_zero Tryd.zero_39, callV_func Tryd.enters_30, Tryd.st_39, callV_func Tryd.enters_21, callV_func Tryd.enters_27, callV_func Tryd.enters_31, allocV_zero Tryd.zero_35, Tryd.st_35, Tryd.ia_23, Tryd.ld_5, Tryd.ld_35, callV_func Tryd.enters_33, callV_func Tryd.enters_26, Tryd.fa_39_10, Tryd.st_23, Tryd.ld_39, Tryd.len_23, so, rs_ctt (show Tryd.f23.results = #[.cell 2 39,  .tmp 3,  .tmp 4] from rfl)]
        refine clone_run f ho4 (by rw [List.length_drop, List.length_take]; omega) fun σ5 o5 ho5 hbo5 hS5 => ?_
        obtain ⟨ao, ko, rfl, _⟩ := ho5.len
        obtain ⟨σ6, t6, v6', hS6, hn6⟩ := (v4'.same hS5 nofun).storeAt (i := 10) (by simp [headL]) (v := .slice ao (optL A).length ko) rfl
        have v6' : VarAt σ6 σ.next (headL A (.slice ao (optL A).length ko)) := v6'
        have ll6 : ldCells σ6 σ.next 0 11 = some (headL A (.slice ao (optL A).length ko)) := v6'.ldCells
        have hv5 := SlAt.same hv4 hS5 nofun
        have hv6 : BAt σ6 _ A := SlAt.same hv5 hS6 (fun x hx w => by simp [blks] at hx w; have := hv.lt b (by simp [blks]); omega)
        obtain ⟨v2, s2, h2, _⟩ := slice_drop (kk := .i64) (t := 23) Tryd.underlying23 Tryd.size_5 hv6 (j := 2) (by omega)
        have s2 : sliceOp Tryd.prog 23 (.slice (some ⟨b, o, none⟩) A.length cap) (some (.int .i64 2)) none none σ6 = some v2 := s2
        obtain ⟨a2, k2, rfl, _⟩ := h2.len
        have r2 : ∀ (Q' : Value × AHeap → Prop), W (acall Tryd.prog gs orc (n + 2) 31 [.slice a2 (A.drop 2).length k2] σ6) Q' = Q' (.int .u16 (allN A : Int), σ6) := fun Q' => by rw [word31_run f h2 (hB.drop 2) (by rw [List.length_drop]; omega), wd_drop]; rfl
        have w2 := wd_lt hB 2
        have hwa : IntKind.i64.wrap (allN A : Int) = (allN A : Int) := wrap64 (by omega) (by unfold allN; omega)
        have hmin : (if (A.length : Int) < (allN A : Int) then (A.length : Int) else (allN A : Int)) = ((min (allN A) A.length : Nat) : Int) := by split <;> omega
        obtain ⟨vb6, sb6, hb6, _⟩ := slice_both (k1 := .i64) (k2 := .i64) (t := 23) (by omega) Tryd.underlying23 Tryd.size_5 hv6 (i := hdN A) (j := min (allN A) A.length) (by omega) (by omega)
        have t6' : stCells σ5 σ.next 10 [.slice ao (optL A).length ko] = some σ6 := t6
        simp (maxSteps := 2000000) only [B0, B1, B2, B3, B4, B5, B6, B7, Gd, extV, Nat.reduceLT, Nat.reduceEqDiff, Nat.reduceBEq, Nat.reduceAdd, Nat.reduceSub, Nat.reduceMul, ↓reduceIte, reduceCtorEq, if_true, if_false, ite_true, ite_false, Int.reduceLT, Int.reduceLE, ptr, allocV_zero Tryd.zero_39, callV_func Tryd.enters_30, Tryd.st_39, callV_func Tryd.enters_21, callV_func Tryd.enters_27, callV_func Tryd.enters_31, allocV_zero Tryd.zero_35, Tryd.st_35, Tryd.ia_23, Tryd.ld_5, Tryd.ld_35, callV_func Tryd.enters_33, callV_func Tryd.enters_26, Tryd.fa_39_10, Tryd.st_23, Tryd.ld_39, Tryd.len_23, optL_len A,  t6',  Value.cells,  List.size_toArray, rs_ctt (show Tryd.f23.results = #[.cell 2 39,  .tmp 3,  .tmp 4] from rfl)]
        refine Eq.mpr (W_retold (ps := [(5, 0), (5, 8), (11, 0)]) (by kernel_rfl) (by kernel_rfl) (by simp)) ?_
        simp (maxSteps := 2000000) only [B0, B1, B2, B3, B4, B5, B6, B7, Gd, extV, Nat.reduceLT, Nat.reduceEqDiff, Nat.reduceBEq, Nat.reduceAdd, Nat.reduceSub, Nat.reduceMul, ↓reduceIte, reduceCtorEq, if_true, if_false, ite_true, ite_false, Int.reduceLT, Int.reduceLE, ptr, allocV_zero Tryd.zero_39, callV_func Tryd.enters_30, Tryd.st_39, callV_func Tryd.enters_21, callV_func Tryd.enters_27, callV_func Tryd.enters_31, allocV_zero Tryd.zero_35, Tryd.st_35, Tryd.ia_23, Tryd.ld_5, Tryd.ld_35, callV_func Tryd.enters_33, callV_func Tryd.enters_26, Tryd.fa_39_10, Tryd.st_23, Tryd.ld_39, Tryd.len_23, ll6,  s2,  r2,  conv_int Tryd.underlying35 Tryd.underlying3,  hwa,  min_int,  hmin,  sb6, rs_ctt (show Tryd.f23.results = #[.cell 2 39,  .tmp 3,  .tmp 4] from rfl)]
        refine clone_run f hb6 (by rw [List.length_drop, List.length_take]; omega) fun σ7 body hbd hbb hS7 => ?_
        obtain ⟨σ8, t8, v8, hS8, hn8⟩ := (v6'.same hS7 nofun).store (vs' := headL A (.slice ao (optL A).length ko)) rfl head_single
        have ll7 : ldCells σ7 σ.next 0 11 = some (headL A (.slice ao (optL A).length ko)) := (v6'.same hS7 nofun).ldCells
        have ll8 : ldCells σ8 σ.next 0 11 = some (headL A (.slice ao (optL A).length ko)) := v8.ldCells
        have n1 := hS1.next
        have n3 := hS3.next
        have n5 := hS5.next
        have n7 := hS7.next
        simp (maxSteps := 2000000) only [B0, B1, B2, B3, B4, B5, B6, B7, Gd, extV, Nat.reduceLT, Nat.reduceEqDiff, Nat.reduceBEq, Nat.reduceAdd, Nat.reduceSub, Nat.reduceMul, ↓reduceIte, reduceCtorEq, if_true, if_false, ite_true, ite_false, Int.reduceLT, Int.reduceLE, ptr, allocV_zero Tryd.zero_39, callV_func Tryd.enters_30, Tryd.st_39, callV_func Tryd.enters_21, callV_func Tryd.enters_27, callV_func Tryd.enters_31, allocV_zero Tryd.zero_35, Tryd.st_35, Tryd.ia_23, Tryd.ld_5, Tryd.ld_35, callV_func Tryd.enters_33, callV_func Tryd.enters_26, Tryd.fa_39_10, Tryd.st_23, Tryd.ld_39, Tryd.len_23, ll6,  ll7,  same_head,  Value.cells,  head_size,  head_list,  t8,  ll8, rs_ctt (show Tryd.f23.results = #[.cell 2 39,  .tmp 3,  .tmp 4] from rfl)]
        refine hQ σ8 _ body hcc (((SlAt.same ho5 hS6 (fun x hx w => by simp at w; have := hbo5 x hx; omega)).same hS7 nofun).same hS8 (fun x hx w => by simp at w; have := hbo5 x hx; omega)) (SlAt.same hbd hS8 (fun x hx w => by simp at w; have := hbb x hx; omega)) (fun x hx => by have := hbo5 x hx; omega) (fun x hx => by have := hbb x hx; omega) ((((((hS1.app hS3).app hS4).app hS5).app hS6).app hS7).app hS8 |>.old fun x hx => by simp at hx; exact .inr (by omega))
    · have hs' : ((sumN (A.take (hdN A)) : Int) = 0) = False := eq_false (by omega)
      have hcc : cutC A = 21 := by unfold cutC; rw [if_neg (by omega), if_pos hs]
      simp (maxSteps := 2000000) only [B0, B1, B2, B3, B4, B5, B6, B7, Gd, extV, Nat.reduceLT, Nat.reduceEqDiff, Nat.reduceBEq, Nat.reduceAdd, Nat.reduceSub, Nat.reduceMul, ↓reduceIte, reduceCtorEq, if_true, if_false, ite_true, ite_false, Int.reduceLT, Int.reduceLE, ptr, allocV_zero Tryd.zero_39, callV_func Tryd.enters_30, Tryd.st_39, callV_func Tryd.enters_21, callV_func Tryd.enters_27, callV_func Tryd.enters_31, allocV_zero Tryd.zero_35, Tryd.st_35, Tryd.ia_23, Tryd.ld_5, Tryd.ld_35, callV_func Tryd.enters_33, callV_func Tryd.enters_26, Tryd.fa_39_10, Tryd.st_23, Tryd.ld_39, Tryd.len_23, hs', rs_ctt (show Tryd.f23.results = #[.cell 2 39,  .tmp 3,  .tmp 4] from rfl)]
      obtain ⟨σ9, t9, v9, hS9, hn9⟩ := v1.store (vs' := zH) rfl zH_single
      have l9 : ldCells σ9 σ.next 0 11 = some zH := v9.ldCells
      simp (maxSteps := 2000000) only [B0, B1, B2, B3, B4, B5, B6, B7, Gd, extV, Nat.reduceLT, Nat.reduceEqDiff, Nat.reduceBEq, Nat.reduceAdd, Nat.reduceSub, Nat.reduceMul, ↓reduceIte, reduceCtorEq, if_true, if_false, ite_true, ite_false, Int.reduceLT, Int.reduceLE, ptr, allocV_zero Tryd.zero_39, callV_func Tryd.enters_30, Tryd.st_39, callV_func Tryd.enters_21, callV_func Tryd.enters_27, callV_func Tryd.enters_31, allocV_zero Tryd.zero_35, Tryd.st_35, Tryd.ia_23, Tryd.ld_5, Tryd.ld_35, callV_func Tryd.enters_33, callV_func Tryd.enters_26, Tryd.fa_39_10, Tryd.st_23, Tryd.ld_39, Tryd.len_23, bld39z,  Value.cells,  zH_size,  zH_list,  t9,  l9, rs_ctt (show Tryd.f23.results = #[.cell 2 39,  .tmp 3,  .tmp 4] from rfl)]
      have := hE σ9 ((hS1.app hS9).old fun b hb => by simp at hb; exact .inr (by omega))
      rw [hcc] at this
      exact this (by omega)
  · have hb' : ((beginC A : Int) = 0) = False := eq_false (by omega)
    have hcc : cutC A = beginC A := by unfold cutC; rw [if_pos hb]
    simp (maxSteps := 2000000) only [B0, B1, B2, B3, B4, B5, B6, B7, Gd, extV, Nat.reduceLT, Nat.reduceEqDiff, Nat.reduceBEq, Nat.reduceAdd, Nat.reduceSub, Nat.reduceMul, ↓reduceIte, reduceCtorEq, if_true, if_false, ite_true, ite_false, Int.reduceLT, Int.reduceLE, ptr, allocV_zero Tryd.zero_39, callV_func Tryd.enters_30, Tryd.st_39, callV_func Tryd.enters_21, callV_func Tryd.enters_27, callV_func Tryd.enters_31, allocV_zero Tryd.zero_35, Tryd.st_35, Tryd.ia_23, Tryd.ld_5, Tryd.ld_35, callV_func Tryd.enters_33, callV_func Tryd.enters_26, Tryd.fa_39_10, Tryd.st_23, Tryd.ld_39, Tryd.len_23, hb', rs_ctt (show Tryd.f23.results = #[.cell 2 39,  .tmp 3,  .tmp 4] from rfl)]
    obtain ⟨σ9, t9, v9, hS9, hn9⟩ := v1.store (vs' := zH) rfl zH_single
    have l9 : ldCells σ9 σ.next 0 11 = some zH := v9.ldCells
    simp (maxSteps := 2000000) only [B0, B1, B2, B3, B4, B5, B6, B7, Gd, extV, Nat.reduceLT, Nat.reduceEqDiff, Nat.reduceBEq, Nat.reduceAdd, Nat.reduceSub, Nat.reduceMul, ↓reduceIte, reduceCtorEq, if_true, if_false, ite_true, ite_false, Int.reduceLT, Int.reduceLE, ptr, allocV_zero Tryd.zero_39, callV_func Tryd.enters_30, Tryd.st_39, callV_func Tryd.enters_21, callV_func Tryd.enters_27, callV_func Tryd.enters_31, allocV_zero Tryd.zero_35, Tryd.st_35, Tryd.ia_23, Tryd.ld_5, Tryd.ld_35, callV_func Tryd.enters_33, callV_func Tryd.enters_26, Tryd.fa_39_10, Tryd.st_23, Tryd.ld_39, Tryd.len_23, bld39z,  Value.cells,  zH_size,  zH_list,  t9,  l9, rs_ctt (show Tryd.f23.results = #[.cell 2 39,  .tmp 3,  .tmp 4] from rfl)]
    have := hE σ9 ((hS1.app hS9).old fun b hb => by simp at hb; exact .inr (by omega))
    rw [hcc] at this
    exact this (by omega)
end Go.Proofs.YtongccpmdndcgaaDoor.Icm
end
/- The document's Cut. -/
section
set_option linter.all false
namespace Go.Proofs.YtongccpmdndcgaaDoor.Icm
open Go Go.AE Go.Proofs
set_option maxRecDepth 100000
set_option maxHeartbeats 4000000
attribute [local irreducible] Go.AE.Tr.put Go.AE.Tr.get
variable {gs : List Nat} {orc : Orc} {n : Nat} {σ : AHeap} {Q : Value × AHeap → Prop}

theorem sliceOp_same {P : Program} {t e : TypeId} {b o l c : Nat} {lo hi : Option Value} {σ σ' : AHeap} {G : List Nat} (ht : P.underlying t = some (.slice e)) (hS : Same σ σ' G) (hb : b ∉ G) (hl : b < σ.next) : sliceOp P t (.slice (some ⟨b, o, none⟩) l c) lo hi none σ' = sliceOp P t (.slice (some ⟨b, o, none⟩) l c) lo hi none σ := by
  have := hS.get b hl hb
  cases hs : sizeOf' P e with
  | none => simp only [sliceOp, ht, hs]
  | some k => simp only [sliceOp, ht, hs, this]
end Go.Proofs.YtongccpmdndcgaaDoor.Icm
end
