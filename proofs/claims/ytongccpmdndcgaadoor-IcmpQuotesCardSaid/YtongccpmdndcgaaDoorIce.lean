/- Texts of this proof, gathered. What each part says stands at its head; conditions: none but those that its theorems name. -/
import Derived.Test.YtongccpmdndcgaaDoorIcd
import Derived.ChangeArms
/- What is put and cut short, read again: plain. -/
section
set_option linter.all false
namespace Go.Proofs.YtongccpmdndcgaaDoor.Icm
open Go Go.AE Go.Proofs
set_option maxRecDepth 100000
set_option maxHeartbeats 1000000

theorem gd_set {A : List Nat} {i x j : Nat} (hi : i < A.length) : gd (A.set i x) j = if i = j then x else gd A j := by
  unfold gd List.getD
  rw [List.getElem?_set]
  by_cases q : i = j
  · rw [if_pos q, if_pos q, if_pos hi]; rfl
  · rw [if_neg q, if_neg q]
theorem wt_set {A : List Nat} {i x : Nat} (hi : i < A.length) (h0 : gd A i = 0) : ∀ j, wt (A.set i x) j = wt A j + (if i < j then (if i % 2 = 0 then x * 256 else x) else 0)
  | 0 => by simp [wt]
  | j + 1 => by
    have ih := wt_set (x := x) hi h0 j
    show wt (A.set i x) j + (if j % 2 = 0 then gd (A.set i x) j * 256 else gd (A.set i x) j) = wt A j + (if j % 2 = 0 then gd A j * 256 else gd A j) + _
    rw [ih, gd_set hi]
    by_cases q : i = j
    · subst q
      rw [if_pos rfl, h0, if_neg (show ¬ i < i by omega), if_pos (show i < i + 1 by omega)]
      split <;> omega
    · rw [if_neg q]
      by_cases q2 : i < j
      · rw [if_pos q2, if_pos (show i < j + 1 by omega)]; omega
      · rw [if_neg q2, if_neg (show ¬ i < j + 1 by omega)]; omega
theorem sum_nought {w : Nat} (h : 0 < w) : f16 (w + (65535 - f16 w)) = 65535 := by
  have : f16 w = (w - 1) % 65535 + 1 := by unfold f16; rw [if_neg (by omega)]
  rw [this]
  unfold f16
  rw [if_neg (by omega)]
  omega
theorem putH_len {h : Hd} {m : Nat} : (putH h m).length = 20 := by unfold putH; rw [List.length_set, List.length_set]; rfl
theorem wt_mono {A : List Nat} : ∀ i, wt A 1 ≤ wt A (i + 1)
  | 0 => Nat.le_refl _
  | i + 1 => by have := wt_mono (A := A) i; show _ ≤ wt A (i + 1) + _; omega
theorem sumH {h : Hd} {m : Nat} : sumN (putH h m) = 0 := by
  have e1 : wt (putH h m) 20 = wt (rawH h m) 20 + sumN (rawH h m) := by
    unfold putH
    rw [wt_set (by rw [List.length_set]; show 11 < 20; omega) (by rw [gd_set (by show 10 < 20; omega)]; rfl), wt_set (by show 10 < 20; omega) rfl, if_pos (by omega), if_pos (by omega), if_pos (by omega), if_neg (by omega)]
    omega
  have hw : 0 < wt (rawH h m) 20 := by
    have : wt (rawH h m) 1 ≤ wt (rawH h m) 20 := wt_mono 19
    have e : wt (rawH h m) 1 = 69 * 256 := by show 0 + (if 0 % 2 = 0 then gd (rawH h m) 0 * 256 else _) = _; rw [if_pos rfl]; show 0 + 69 * 256 = 69 * 256; rfl
    omega
  unfold sumN
  rw [putH_len, e1, show sumN (rawH h m) = 65535 - f16 (wt (rawH h m) 20) from rfl, sum_nought hw]
theorem putH_byt {h : Hd} (hh : h.ok) {m : Nat} (hm : m ≤ 100) : Byt (putH h m) := by
  have h1 := rawH_byt hh hm
  have := f16_le (wt (rawH h m) (rawH h m).length)
  have hs : sumN (rawH h m) < 65536 := by unfold sumN; omega
  intro b hb
  unfold putH at hb
  rcases List.mem_or_eq_of_mem_set hb with hb | rfl
  · rcases List.mem_or_eq_of_mem_set hb with hb | rfl
    · exact h1 b hb
    · omega
  · omega
section
variable {h : Hd} {m : Nat} {C : List Nat}
theorem hdA : hdN (putH h m ++ C) = 20 := by
  have g0 : gd (putH h m ++ C) 0 = 69 := rfl
  unfold hdN
  rw [g0]
theorem allA (hm : m ≤ 100) : allN (putH h m ++ C) = 20 + m := by
  show (20 + m) / 256 * 256 + (20 + m) % 256 = 20 + m
  omega
theorem begA (hm : m ≤ 100) : beginC (putH h m ++ C) = 0 := by
  have hl : (putH h m ++ C).length = 20 + C.length := by rw [List.length_append, putH_len]
  unfold beginC
  rw [if_neg (by omega), if_neg (by rw [hdA]; have : gd (putH h m ++ C) 0 = 69 := rfl; omega), if_neg (by rw [hdA]; omega), if_neg (by rw [hdA, allA hm]; omega)]
theorem takeA : (putH h m ++ C).take 20 = putH h m := by rw [List.take_append_of_le_length (by rw [putH_len]; omega), List.take_of_length_le (by rw [putH_len]; omega)]
theorem optA : optL (putH h m ++ C) = [] := by unfold optL; rw [hdA, takeA]; rw [List.drop_of_length_le (by rw [putH_len]; omega)]
theorem cutA (hm : m ≤ 100) : cutC (putH h m ++ C) = 0 := by
  unfold cutC
  rw [if_neg (by rw [begA hm]; omega), hdA, takeA, if_neg (by rw [sumH]; omega), optA]
  rfl
theorem bodyA (hm : m ≤ 100) (hC : C.length ≤ m) : bodyL (putH h m ++ C) = C := by
  have hl : (putH h m ++ C).length = 20 + C.length := by rw [List.length_append, putH_len]
  unfold bodyL
  rw [allA hm, hdA, Nat.min_eq_right (by omega), List.take_of_length_le (Nat.le_refl _)]
  have : (20 : Nat) = (putH h m).length := putH_len.symm
  conv => lhs; arg 1; rw [this]
  exact List.drop_left
theorem flag_cases : (h.b4 = true ∧ h.b5 = true ∧ flN h 3 = 49152) ∨ (h.b4 = true ∧ h.b5 = false ∧ flN h 3 = 32768) ∨ (h.b4 = false ∧ h.b5 = true ∧ flN h 3 = 16384) ∨ (h.b4 = false ∧ h.b5 = false ∧ flN h 3 = 0) := by
  cases h4 : h.b4 <;> cases h5 : h.b5 <;> simp [flN, h4, h5]
theorem headA (o : Value) : headL (putH h m ++ C) o = genL h.tos h.ttl h.pro h.id h.b4 h.b5 false 0 h.s h.d o := by
  have e1 : gd (putH h m ++ C) 1 = h.tos := rfl
  have e8 : gd (putH h m ++ C) 8 = h.ttl := rfl
  have e9 : gd (putH h m ++ C) 9 = h.pro := rfl
  have e4 : wd (putH h m ++ C) 4 = h.id := by show h.id / 256 * 256 + h.id % 256 = h.id; omega
  have e6 : wd (putH h m ++ C) 6 = flN h 3 := by show flN h 3 / 256 * 256 + flN h 3 % 256 = flN h 3; omega
  have es : ad (putH h m ++ C) 12 = h.s := by show (h.s / 65536 / 256 * 256 + h.s / 65536 % 256) * 65536 + (h.s % 65536 / 256 * 256 + h.s % 65536 % 256) = h.s; omega
  have ed : ad (putH h m ++ C) 16 = h.d := by show (h.d / 65536 / 256 * 256 + h.d / 65536 % 256) * 65536 + (h.d % 65536 / 256 * 256 + h.d % 65536 % 256) = h.d; omega
  unfold headL genL
  rw [e1, e8, e9, e4, e6, es, ed]
  rcases flag_cases (h := h) with ⟨h4, h5, hf⟩ | ⟨h4, h5, hf⟩ | ⟨h4, h5, hf⟩ | ⟨h4, h5, hf⟩ <;> rw [h4, h5, hf] <;> rfl
theorem takeP {B : List Nat} {k : Nat} (hk : 20 ≤ k) : (putH h m ++ B).take k = putH h m ++ B.take (k - 20) := by
  rw [List.take_append, List.take_of_length_le (by rw [putH_len]; omega), putH_len]
end
theorem cut_short {A : List Nat} (h : A.length < 20) : cutC A = 4 := by
  unfold cutC
  have : beginC A = 4 := by unfold beginC; rw [if_pos h]
  rw [this]; rfl
theorem quote_bad {h : Hd} {ty k : Nat} {B : List Nat} (hty : kindN ty = 1) (hB : B.length ≤ 100) (hk : k ≤ 20 + B.length) (hs : k < 20 + min 8 B.length) : quoteC ⟨ty, 0, 0, 0, 0, 0, (putH h B.length ++ B).take k⟩ = 4 := by
  unfold quoteC
  show (if kindN ty ≠ 1 then 1 else _) = 4
  rw [if_neg (by omega)]
  by_cases q : k < 20
  · have := cut_short (A := (putH h B.length ++ B).take k) (by rw [List.length_take]; omega)
    show (if cutC ((putH h B.length ++ B).take k) ≠ 0 then cutC ((putH h B.length ++ B).take k) else _) = 4
    rw [this]; rfl
  · show (if cutC ((putH h B.length ++ B).take k) ≠ 0 then _ else if (bodyL ((putH h B.length ++ B).take k)).length < 8 ∧ (bodyL ((putH h B.length ++ B).take k)).length < allN ((putH h B.length ++ B).take k) - hdN ((putH h B.length ++ B).take k) then 4 else 0) = 4
    rw [takeP (by omega), if_neg (by rw [cutA hB]; omega), bodyA hB (by rw [List.length_take]; omega), allA hB, hdA, if_pos]
    rw [List.length_take]; omega
theorem quote_ok {h : Hd} {ty k : Nat} {B : List Nat} (hty : kindN ty = 1) (hB : B.length ≤ 100) (hk : k ≤ 20 + B.length) (hs : ¬ k < 20 + min 8 B.length) : quoteC ⟨ty, 0, 0, 0, 0, 0, (putH h B.length ++ B).take k⟩ = 0 := by
  unfold quoteC
  show (if kindN ty ≠ 1 then 1 else if cutC ((putH h B.length ++ B).take k) ≠ 0 then _ else if (bodyL ((putH h B.length ++ B).take k)).length < 8 ∧ (bodyL ((putH h B.length ++ B).take k)).length < allN ((putH h B.length ++ B).take k) - hdN ((putH h B.length ++ B).take k) then 4 else 0) = 0
  rw [if_neg (by omega), takeP (by omega), if_neg (by rw [cutA hB]; omega), bodyA hB (by rw [List.length_take]; omega), allA hB, hdA, if_neg]
  rw [List.length_take]; omega
end Go.Proofs.YtongccpmdndcgaaDoor.Icm
end
/- IcmpQuotes' own run. -/
section
set_option linter.all false
namespace Go.AE
variable {P : Program}
section
variable {α : Type} {k : Nat} {enc' : α → List Value}
theorem SlCut.take2 {t e : TypeId} {kk : IntKind} {σ : AHeap} {v : Value} {A : List α} (h : SlCut σ v) (ht : P.underlying t = some (.slice e)) (hs : sizeOf' P e = some k) (hv : SlR σ k enc' v A) {j : Nat} (hj : j ≤ A.length) :
    ∃ v', sliceOp P t v none (some (.int kk (j : Int))) none σ = some v' ∧ SlR σ k enc' v' (A.take j) ∧ SlCut σ v' := by
  obtain ⟨v', h1, h2, h3⟩ := SlCut.take (kk := kk) h ht hs hv hj
  refine ⟨v', h1, h2, ?_⟩
  have ub : ∀ {y : Nat}, j ≤ y → ubound (.int kk (j : Int)) y = some j := fun {y} hy => by unfold ubound natOf; simp [Nat.ble_eq_true_of_le hy]
  rcases h with rfl | ⟨a, rfl⟩ | ⟨b, o, len, cap, n, c, e', ro, rfl, g1, g2, g3, g4⟩
  · obtain ⟨a', c', e1⟩ := hv.len
    injection e1 with _ e2 _
    obtain rfl : j = 0 := by omega
    have : sliceOp P t (.slice none 0 0) none (some (.int kk ((0 : Nat) : Int))) none σ = some (.slice none 0 0) := by simp only [sliceOp, ht, hs, bounds, ub (Nat.le_refl 0), lowB]; try rfl
    rw [this] at h1
    cases h1
    exact .inl rfl
  · obtain ⟨a', c', e1⟩ := hv.len
    injection e1 with _ e2 _
    obtain rfl : j = 0 := by omega
    have : sliceOp P t (.slice (some { a with spot := some 0 }) 0 0) none (some (.int kk ((0 : Nat) : Int))) none σ = some (exactEmpty { a with spot := some 0 }) := by simp only [sliceOp, ht, hs, bounds, ub (Nat.le_refl 0), lowB]; try rfl
    rw [this] at h1
    cases h1
    exact .inr (.inl ⟨a, rfl⟩)
  · obtain ⟨a', c', e1⟩ := hv.len
    injection e1 with e0 e2 _
    have hz : cap.beq 0 = false := Bool.eq_false_iff.2 fun q => by have := Nat.eq_of_beq_eq_true q; omega
    have : sliceOp P t (.slice (some ⟨b, o, none⟩) len cap) none (some (.int kk (j : Int))) none σ = some (.slice (some ⟨b, o, none⟩) j cap) := by
      simp only [sliceOp, ht, hs, Nat.ble_eq_true_of_le g1, bounds, ub (show j ≤ cap by omega), lowB, g4, Bool.not_false, Bool.true_or, sliceRow, hz, Nat.zero_mul, Addr.add, if_true, Nat.sub_zero]
    rw [this] at h1
    cases h1
    exact .inr (.inr ⟨b, o, j, cap, n, c, e', ro, rfl, by omega, g2, g3, g4⟩)
end
end Go.AE
namespace Go.Proofs.YtongccpmdndcgaaDoor.Icm
open Go Go.AE Go.Proofs
set_option maxRecDepth 100000
set_option maxHeartbeats 4000000
attribute [local irreducible] Go.AE.Tr.put Go.AE.Tr.get
variable {gs : List Nat} {orc : Orc} {n : Nat} {σ : AHeap} {Q : Value × AHeap → Prop}

theorem conv_slr {v : Value} {A : List Nat} (h : SlR σ 1 encB v A) : conv Tryd.prog 23 9 v σ = some (.string (strB A), σ) := by
  have hf := slr_first h
  obtain ⟨a, c, rfl⟩ := h.len
  rw [flat_encB] at hf
  simp only [conv, Tryd.underlying23, Tryd.underlying9, Tryd.underlying5, hf, bytes_of, strB]
theorem gen_len {x0 x1 x2 x3 x7 x8 x9 : Int} {b4 b5 b6 : Bool} {o : Value} : (genL x0 x1 x2 x3 b4 b5 b6 x7 x8 x9 o).length = 11 := rfl
theorem same_hd {h : Hd} : sameV 6 (.agg (hdL h).toArray) (.agg (hdL h).toArray) = true := by simp [sameV, hdL, genL]
theorem bld57 : build' Tryd.prog 57 [(0, .int .u8 3), (1, .int .u8 4), (2, .int .u8 5), (3, .int .u8 11), (4, .int .u8 12)] = some (.agg #[.int .u8 3, .int .u8 4, .int .u8 5, .int .u8 11, .int .u8 12]) := by kernel_rfl
def tyN (j : Nat) : Nat := [3, 4, 5, 11, 12].getD j 0
theorem tyN_kind {j : Nat} (h : j < 5) : kindN (tyN j) = 1 ∧ tyN j < 256 := by
  rcases (show j = 0 ∨ j = 1 ∨ j = 2 ∨ j = 3 ∨ j = 4 by omega) with rfl | rfl | rfl | rfl | rfl <;> decide
theorem idx57 {j : Nat} (h : j < 5) : indexVal Tryd.prog 57 (.agg #[.int .u8 3, .int .u8 4, .int .u8 5, .int .u8 11, .int .u8 12]) (.int .u8 (j : Int)) = some (.int .u8 (tyN j : Int)) := by
  rcases (show j = 0 ∨ j = 1 ∨ j = 2 ∨ j = 3 ∨ j = 4 by omega) with rfl | rfl | rfl | rfl | rfl <;> kernel_rfl
theorem bld25b {x : Int} {a : Option Addr} {l c : Nat} : build' Tryd.prog 25 [(0, .int .u8 x), (3, .slice a l c)] = some (.agg #[.int .u8 x, .int .u8 0, .int .u8 0, .int .u8 0, .int .u8 0, .int .u8 0, .slice a l c]) := by kernel_rfl
theorem quotes5_run (f : FreeI orc) {h : Hd} {b6 : Bool} {off : Int} {ao : Option Addr} {lo co : Nat} {v0 : Value} {D0 : List Nat} {pa pb : Nat} (hG : Glb σ) (hh : h.ok) (hB : Byt D0) (hpa : pa < 256) (hpb : pb < 256) (hR : SlR σ 1 encB v0 D0) (hC : SlCut σ v0) (hn : 700 < n) :
    W (acall Tryd.prog [0] orc (n + 6) 5 [.agg (genL h.tos h.ttl h.pro h.id h.b4 h.b5 b6 off h.s h.d (.slice ao lo co)).toArray, v0, .int .u8 (pa : Int), .int .u8 (pb : Int)] σ) fun x => x.1 = .bool true := by
  obtain ⟨a0, c0, rfl⟩ := hR.len
  obtain ⟨σ1, e1, hS1, v1, hn1⟩ := AE.oneVar σ 39 (genL h.tos h.ttl h.pro h.id h.b4 h.b5 b6 off h.s h.d (.slice ao lo co)) false
  obtain ⟨σ2, t2, v2, hS2, hn2⟩ := v1.storeAt (i := 10) (by simp [genL]) (v := .slice none 0 0) rfl
  obtain ⟨σ3, t3, v3, hS3, hn3⟩ := v2.storeAt (i := 7) (by simp [genL]) (v := .int .i64 0) rfl
  obtain ⟨σ4, t4, v4, hS4, hn4⟩ := v3.storeAt (i := 6) (by simp [genL]) (v := .bool false) rfl
  have v4 : VarAt σ4 σ.next (hdL h) := v4
  have hS04 : Same σ σ4 [] := (((hS1.app hS2).app hS3).app hS4).old fun x hx => by simp at hx; exact .inr (by omega)
  have hR4 := hR.same hS04 nofun
  have hC4 := hC.same hS04 nofun
  obtain ⟨vk, sk, hRk, hCk⟩ := hC4.take2 (kk := .i64) (t := 23) Tryd.underlying23 Tryd.size_5 hR4 (j := min D0.length 100) (by omega)
  obtain ⟨B, hBe⟩ : ∃ B, D0.take (min D0.length 100) = B := ⟨_, rfl⟩
  have hBB : Byt B := by rw [← hBe]; exact hB.take _
  have hBl : B.length ≤ 100 := by rw [← hBe, List.length_take]; omega
  rw [hBe] at hRk
  obtain ⟨ak, ck, rfl⟩ := hRk.len
  have hmin : (if (100 : Int) < (D0.length : Int) then (100 : Int) else (D0.length : Int)) = ((min D0.length 100 : Nat) : Int) := by split <;> omega
  have ll4 : ldCells σ4 σ.next 0 11 = some (hdL h) := v4.ldCells
  rw [W_start (m := 112) (keep := [7, 13]) Tryd.func5 rfl (by kernel_rfl) (by kernel_rfl) (by first | rfl | assumption | exact f.h5) (by rfl)]
  simp (maxSteps := 2000000) only [B0, B1, B2, B3, B4, B5, B6, B7, Gd, extV, Nat.reduceLT, Nat.reduceEqDiff, Nat.reduceBEq, Nat.reduceAdd, Nat.reduceSub, Nat.reduceMul, ↓reduceIte, reduceCtorEq, if_true, if_false, ite_true, ite_false, Int.reduceLT, Int.reduceLE, ptr, Tryd.fa_39_10, Tryd.st_23, Tryd.fa_39_7, Tryd.st_3, Tryd.fa_39_6, Tryd.st_4, Tryd.len_23, Tryd.ld_39, callV_func Tryd.enters_20, allocV_zero Tryd.zero_25, Tryd.st_25, Tryd.ld_25, callV_func Tryd.enters_10, allocV_zero Tryd.zero_39, Tryd.st_39, callV_func Tryd.enters_18, Tryd.fa_25_0, Tryd.st_5, callV_func Tryd.enters_15, callV_func Tryd.enters_14, Value.cells,  gen_list,  gen_size,  List.size_toArray,  e1,  t2,  t3,  t4,  min_int,  hmin,  sk,  ll4,  hd_len,  hd_list, rs_tmp (show Tryd.f5.results = #[.tmp 8] from rfl)]
  refine put20_run f hh hRk hBB hBl (by omega) fun σ5 vp hp hbp hS5 => ?_
  obtain ⟨P, hP⟩ : ∃ P, putH h B.length ++ B = P := ⟨_, rfl⟩
  have hPl : P.length = 20 + B.length := by rw [← hP, List.length_append, putH_len]
  have hPB : Byt P := by
    rw [← hP]
    intro b hb
    rcases List.mem_append.1 hb with q | q
    · exact putH_byt hh hBl b q
    · exact hBB b q
  rw [hP] at hp
  obtain ⟨ap, cp, rfl, _⟩ := hp.len
  have w20 : IntKind.i64.wrap (20 + (B.length : Int)) = (P.length : Int) := by rw [wrap64 (by omega) (by omega)]; omega
  have wpa : IntKind.i64.wrap (pa : Int) = (pa : Int) := wrap64 (by omega) (by omega)
  have wp1 : IntKind.i64.wrap ((P.length : Int) + 1) = ((P.length + 1 : Nat) : Int) := by rw [wrap64 (by omega) (by omega)]; omega
  obtain ⟨k, hk⟩ : ∃ k, pa % (P.length + 1) = k := ⟨_, rfl⟩
  have hkl : k ≤ P.length := by have := Nat.mod_lt pa (show 0 < P.length + 1 by omega); omega
  have rk : ∀ {x y}, bin Tryd.prog .rem 3 x y (.int .i64 (pa : Int)) (.int .i64 ((P.length + 1 : Nat) : Int)) = some (.int .i64 (k : Int)) := fun {x y} => by rw [← hk]; exact bin_remN (c := P.length + 1) (by omega)
  simp (maxSteps := 2000000) only [B0, B1, B2, B3, B4, B5, B6, B7, Gd, extV, Nat.reduceLT, Nat.reduceEqDiff, Nat.reduceBEq, Nat.reduceAdd, Nat.reduceSub, Nat.reduceMul, ↓reduceIte, reduceCtorEq, if_true, if_false, ite_true, ite_false, Int.reduceLT, Int.reduceLE, ptr, Tryd.fa_39_10, Tryd.st_23, Tryd.fa_39_7, Tryd.st_3, Tryd.fa_39_6, Tryd.st_4, Tryd.len_23, Tryd.ld_39, callV_func Tryd.enters_20, allocV_zero Tryd.zero_25, Tryd.st_25, Tryd.ld_25, callV_func Tryd.enters_10, allocV_zero Tryd.zero_39, Tryd.st_39, callV_func Tryd.enters_18, Tryd.fa_25_0, Tryd.st_5, callV_func Tryd.enters_15, callV_func Tryd.enters_14, w20,  conv_int Tryd.underlying5 Tryd.underlying3,  wpa,  wp1,  rk, rs_tmp (show Tryd.f5.results = #[.tmp 8] from rfl)]
  obtain ⟨j, hj⟩ : ∃ j, pb % 5 = j := ⟨_, rfl⟩
  have hj5 : j < 5 := by omega
  obtain ⟨hk1, hty⟩ := tyN_kind hj5
  have rj : ∀ {x y}, bin Tryd.prog .rem 5 x y (.int .u8 (pb : Int)) (.int .u8 5) = some (.int .u8 (j : Int)) := fun {x y} => by rw [← hj]; exact bin_remN (c := 5) (by omega)
  obtain ⟨vp2, sp2, hp2, hbp2⟩ := slice_take (kk := .i64) (t := 23) Tryd.underlying23 Tryd.size_5 hp (j := k) hkl
  obtain ⟨aq, cq, rfl, _⟩ := hp2.len
  obtain ⟨m, hm0⟩ : ∃ m : Mg, m = ⟨tyN j, 0, 0, 0, 0, 0, P.take k⟩ := ⟨_, rfl⟩
  have hm : m.ok := by rw [hm0]; exact ⟨hty, show 0 < 256 by omega, show 0 < 256 by omega, show 0 < 256 by omega, show 0 < 256 by omega, show 0 < 256 by omega, hPB.take _, by show (P.take k).length ≤ 200; rw [List.length_take]; omega⟩
  have hmB : m.B = P.take k := by rw [hm0]
  have hmt : m.ty = tyN j := by rw [hm0]
  rw [← hmB] at hp2 sp2 hbp2
  have hml : m.B.length = k := by rw [hmB, List.length_take]; omega
  obtain ⟨σ6, σ7, e6, t7, hS7, v7, hn7, hS6⟩ := AE.newVar σ5 25 (msgL ⟨0, 0, 0, 0, 0, 0, []⟩ (.slice none 0 0)) (msgL m (.slice aq m.B.length cq)) rfl msg_single
  have hmv : (#[.int .u8 (tyN j : Int), .int .u8 0, .int .u8 0, .int .u8 0, .int .u8 0, .int .u8 0, .slice aq m.B.length cq] : Array Value) = (msgL m (.slice aq m.B.length cq)).toArray := by rw [hm0]; rfl
  have sp26 : sliceOp Tryd.prog 23 (.slice ap P.length cp) none (some (.int .i64 (k : Int))) none σ6 = some (.slice aq m.B.length cq) := by
    rw [← sp2]
    cases ap with
    | none => rfl
    | some a =>
      obtain ⟨ab, ao2, asp⟩ := a
      cases asp with
      | some _ => rfl
      | none => exact sliceOp_same Tryd.underlying23 hS6 nofun (SlAt.lt hp ab (by simp [blks]))
  have hS57 := hS7
  have hG7 := ((hG.same hS04).same hS5).same hS7
  have ll7 : ldCells σ7 σ5.next 0 7 = some (msgL m (.slice aq m.B.length cq)) := v7.ldCells
  have hp7 := SlAt.same hp2 hS7 nofun
  have v47 : VarAt σ7 σ.next (hdL h) := (v4.same hS5 nofun).same hS7 nofun
  refine Eq.mpr (W_retold (ps := [(8, 6)]) (by kernel_rfl) (by kernel_rfl) (by simp)) ?_
  simp (maxSteps := 2000000) only [B0, B1, B2, B3, B4, B5, B6, B7, Gd, extV, Nat.reduceLT, Nat.reduceEqDiff, Nat.reduceBEq, Nat.reduceAdd, Nat.reduceSub, Nat.reduceMul, ↓reduceIte, reduceCtorEq, if_true, if_false, ite_true, ite_false, Int.reduceLT, Int.reduceLE, ptr, Tryd.fa_39_10, Tryd.st_23, Tryd.fa_39_7, Tryd.st_3, Tryd.fa_39_6, Tryd.st_4, Tryd.len_23, Tryd.ld_39, callV_func Tryd.enters_20, allocV_zero Tryd.zero_25, Tryd.st_25, Tryd.ld_25, callV_func Tryd.enters_10, allocV_zero Tryd.zero_39, Tryd.st_39, callV_func Tryd.enters_18, Tryd.fa_25_0, Tryd.st_5, callV_func Tryd.enters_15, callV_func Tryd.enters_14, bld57,  rj,  idx57 hj5,  sp2,  sp26,  bld25b,  hmv,  Value.cells,  msg_list,  msg_size,  msg_zero25,  e6,  t7,  ll7, rs_tmp (show Tryd.f5.results = #[.tmp 8] from rfl)]
  have n5 := hS5.next
  have n7 := hS7.next
  have hmin8 : (if (B.length : Int) < 8 then (B.length : Int) else 8) = ((min 8 B.length : Nat) : Int) := by split <;> omega
  have wm8 : IntKind.i64.wrap (20 + ((min 8 B.length : Nat) : Int)) = ((20 + min 8 B.length : Nat) : Int) := by rw [wrap64 (by omega) (by omega)]; omega
  by_cases hbad : k < 20 + min 8 B.length
  · have hq4 : quoteC m = 4 := by rw [hm0, ← hP]; exact quote_bad hk1 hBl (by omega) hbad
    refine quote10_run f hG7 hm hp7 (by omega) (fun σ8 hS8 _ => ?_) (fun σ8 o body h0 => absurd h0 (by omega))
    rw [hq4]
    obtain ⟨σ9, σ10, e9, t10, hS10, v10, hn10, hS9⟩ := AE.newVar σ8 39 zH zH rfl zH_single
    have hlt : ((k : Int) < ((20 + min 8 B.length : Nat) : Int)) = True := eq_true (by omega)
    simp (maxSteps := 2000000) only [B0, B1, B2, B3, B4, B5, B6, B7, Gd, extV, Nat.reduceLT, Nat.reduceEqDiff, Nat.reduceBEq, Nat.reduceAdd, Nat.reduceSub, Nat.reduceMul, ↓reduceIte, reduceCtorEq, if_true, if_false, ite_true, ite_false, Int.reduceLT, Int.reduceLE, ptr, Tryd.fa_39_10, Tryd.st_23, Tryd.fa_39_7, Tryd.st_3, Tryd.fa_39_6, Tryd.st_4, Tryd.len_23, Tryd.ld_39, callV_func Tryd.enters_20, allocV_zero Tryd.zero_25, Tryd.st_25, Tryd.ld_25, callV_func Tryd.enters_10, allocV_zero Tryd.zero_39, Tryd.st_39, callV_func Tryd.enters_18, Tryd.fa_25_0, Tryd.st_5, callV_func Tryd.enters_15, callV_func Tryd.enters_14, zst39,  zH_list,  zH_size,  Value.cells,  e9,  t10,  min_int,  hmin8,  wm8,  hlt,  Int.cast_ofNat_Int,  Int.reduceEq, rs_tmp (show Tryd.f5.results = #[.tmp 8] from rfl)]
    refine tells_run f ((hG7.same hS8).same hS10) (by omega) fun σ11 hS11 => ?_
    simp (maxSteps := 2000000) only [B0, B1, B2, B3, B4, B5, B6, B7, Gd, extV, Nat.reduceLT, Nat.reduceEqDiff, Nat.reduceBEq, Nat.reduceAdd, Nat.reduceSub, Nat.reduceMul, ↓reduceIte, reduceCtorEq, if_true, if_false, ite_true, ite_false, Int.reduceLT, Int.reduceLE, ptr, Tryd.fa_39_10, Tryd.st_23, Tryd.fa_39_7, Tryd.st_3, Tryd.fa_39_6, Tryd.st_4, Tryd.len_23, Tryd.ld_39, callV_func Tryd.enters_20, allocV_zero Tryd.zero_25, Tryd.st_25, Tryd.ld_25, callV_func Tryd.enters_10, allocV_zero Tryd.zero_39, Tryd.st_39, callV_func Tryd.enters_18, Tryd.fa_25_0, Tryd.st_5, callV_func Tryd.enters_15, callV_func Tryd.enters_14, rs_tmp (show Tryd.f5.results = #[.tmp 8] from rfl)]
  · have hq0 : quoteC m = 0 := by rw [hm0, ← hP]; exact quote_ok hk1 hBl (by omega) hbad
    refine quote10_fresh f hG7 hm hp7 (by omega) (fun σ8 _ h0 => absurd hq0 h0) (fun σ8 o body _ ho hb hbo hbb hS8 => ?_)
    rw [hmB, ← hP, takeP (by omega)] at ho hb
    rw [optA] at ho
    rw [bodyA hBl (by rw [List.length_take]; omega)] at hb
    rw [hmB, ← hP, takeP (by omega), headA]
    obtain ⟨oa, oc, rfl, _⟩ := ho.len
    obtain ⟨ba, bc, rfl, _⟩ := hb.len
    obtain ⟨σ9, σ10, e9, t10, hS10, v10, hn10, hS9⟩ := AE.newVar σ8 39 zH (genL h.tos h.ttl h.pro h.id h.b4 h.b5 false 0 h.s h.d (.slice oa 0 oc)) rfl gen_single
    have n8 := hS8.next
    have v710 := (v7.same hS8 nofun).same hS10 nofun
    obtain ⟨σ11, t11, v11, hS11, hn11⟩ := v710.storeAt (i := 0) (by rw [msg_len]; omega) (v := .int .u8 8) rfl
    obtain ⟨m8, hm8⟩ : ∃ m8 : Mg, m8 = ⟨8, 0, 0, 0, 0, 0, P.take k⟩ := ⟨_, rfl⟩
    have hm8B : m8.B = m.B := by rw [hm8, hmB]
    have hok8 : m8.ok := by rw [hm8]; exact ⟨show 8 < 256 by omega, show 0 < 256 by omega, show 0 < 256 by omega, show 0 < 256 by omega, show 0 < 256 by omega, show 0 < 256 by omega, hPB.take _, by show (P.take k).length ≤ 200; rw [List.length_take]; omega⟩
    have v11 : VarAt σ11 σ5.next (msgL m8 (.slice aq m.B.length cq)) := by
      rw [hm0] at v11; rw [hm8, hm0]; exact v11
    have hv11 : VarAt σ11 σ8.next (genL h.tos h.ttl h.pro h.id h.b4 h.b5 false 0 h.s h.d (.slice oa 0 oc)) := v10.same hS11 (by simp; omega)
    have hlp := SlAt.lt hp
    have hpb7 : ∀ x ∈ blks (.slice aq m.B.length cq), x < σ5.next := fun x hx => hlp x (hbp2 x hx)
    have hp11 : BAt σ11 (.slice aq m.B.length cq) m8.B := by
      rw [hm8B]; exact SlAt.same ((SlAt.same hp7 hS8 nofun).same hS10 nofun) hS11 (fun x hx w => by have := hpb7 x hx; simp at w; omega)
    have l11 : ldCells σ11 σ5.next 0 7 = some (msgL m8 (.slice aq m.B.length cq)) := v11.ldCells
    have hS511 : Same σ5 σ11 [] := (((hS7.app hS8).app hS10).app hS11).old fun x hx => by simp at hx; exact .inr (by omega)
    have hG11 := ((hG.same hS04).same hS5).same hS511
    have hlt : ((k : Int) < ((20 + min 8 B.length : Nat) : Int)) = False := eq_false (by omega)
    simp (maxSteps := 2000000) only [B0, B1, B2, B3, B4, B5, B6, B7, Gd, extV, Nat.reduceLT, Nat.reduceEqDiff, Nat.reduceBEq, Nat.reduceAdd, Nat.reduceSub, Nat.reduceMul, ↓reduceIte, reduceCtorEq, if_true, if_false, ite_true, ite_false, Int.reduceLT, Int.reduceLE, ptr, Tryd.fa_39_10, Tryd.st_23, Tryd.fa_39_7, Tryd.st_3, Tryd.fa_39_6, Tryd.st_4, Tryd.len_23, Tryd.ld_39, callV_func Tryd.enters_20, allocV_zero Tryd.zero_25, Tryd.st_25, Tryd.ld_25, callV_func Tryd.enters_10, allocV_zero Tryd.zero_39, Tryd.st_39, callV_func Tryd.enters_18, Tryd.fa_25_0, Tryd.st_5, callV_func Tryd.enters_15, callV_func Tryd.enters_14, zst39,  zH_list,  zH_size,  gen_size,  gen_list,  Value.cells,  e9,  t10,  min_int,  hmin8,  wm8,  hlt,  List.size_toArray,  gen_len,  t11,  msg_size,  msg_len,  msg_list,  l11, rs_tmp (show Tryd.f5.results = #[.tmp 8] from rfl)]
    have hq8 : quoteC m8 = 1 := by rw [hm8]; rfl
    refine quote10_run f hG11 hok8 hp11 (by omega) (fun σ12 hS12 _ => ?_) (fun σ12 o body h0 => absurd h0 (by omega))
    rw [hq8]
    obtain ⟨σ13, σ14, e13, t14, hS14, v14, hn14, hS13⟩ := AE.newVar σ12 39 zH zH rfl zH_single
    have n12 := hS12.next
    have hS1114 := hS12.app hS14
    have hS514 := hS511.app hS1114
    have g14 : ldCells σ14 σ8.next 0 11 = some (genL h.tos h.ttl h.pro h.id h.b4 h.b5 false 0 h.s h.d (.slice oa 0 oc)) := (hv11.same hS1114 nofun).ldCells
    have hv14 : VarAt σ14 σ.next (hdL h) := (v4.same hS5 nofun).same hS514 nofun
    have hd14 : ldCells σ14 σ.next 0 11 = some (hdL h) := hv14.ldCells
    have hG14 := hG11.same hS1114
    simp (maxSteps := 2000000) only [B0, B1, B2, B3, B4, B5, B6, B7, Gd, extV, Nat.reduceLT, Nat.reduceEqDiff, Nat.reduceBEq, Nat.reduceAdd, Nat.reduceSub, Nat.reduceMul, ↓reduceIte, reduceCtorEq, if_true, if_false, ite_true, ite_false, Int.reduceLT, Int.reduceLE, ptr, Tryd.fa_39_10, Tryd.st_23, Tryd.fa_39_7, Tryd.st_3, Tryd.fa_39_6, Tryd.st_4, Tryd.len_23, Tryd.ld_39, callV_func Tryd.enters_20, allocV_zero Tryd.zero_25, Tryd.st_25, Tryd.ld_25, callV_func Tryd.enters_10, allocV_zero Tryd.zero_39, Tryd.st_39, callV_func Tryd.enters_18, Tryd.fa_25_0, Tryd.st_5, callV_func Tryd.enters_15, callV_func Tryd.enters_14, zst39,  zH_list,  zH_size,  Value.cells,  e13,  t14, rs_tmp (show Tryd.f5.results = #[.tmp 8] from rfl)]
    refine Eq.mpr (W_retold (ps := [(4, 5)]) (by kernel_rfl) (by kernel_rfl) (by simp)) ?_
    simp (maxSteps := 2000000) only [B0, B1, B2, B3, B4, B5, B6, B7, Gd, extV, Nat.reduceLT, Nat.reduceEqDiff, Nat.reduceBEq, Nat.reduceAdd, Nat.reduceSub, Nat.reduceMul, ↓reduceIte, reduceCtorEq, if_true, if_false, ite_true, ite_false, Int.reduceLT, Int.reduceLE, ptr, Tryd.fa_39_10, Tryd.st_23, Tryd.fa_39_7, Tryd.st_3, Tryd.fa_39_6, Tryd.st_4, Tryd.len_23, Tryd.ld_39, callV_func Tryd.enters_20, allocV_zero Tryd.zero_25, Tryd.st_25, Tryd.ld_25, callV_func Tryd.enters_10, allocV_zero Tryd.zero_39, Tryd.st_39, callV_func Tryd.enters_18, Tryd.fa_25_0, Tryd.st_5, callV_func Tryd.enters_15, callV_func Tryd.enters_14, g14,  gen_size,  gen_list,  Int.cast_ofNat_Int,  Int.reduceEq, rs_tmp (show Tryd.f5.results = #[.tmp 8] from rfl)]
    refine of_run f fun σ15 hS15 => ?_
    have hd15 : ldCells σ15 σ.next 0 11 = some (hdL h) := (hv14.same hS15 nofun).ldCells
    simp (maxSteps := 2000000) only [B0, B1, B2, B3, B4, B5, B6, B7, Gd, extV, Nat.reduceLT, Nat.reduceEqDiff, Nat.reduceBEq, Nat.reduceAdd, Nat.reduceSub, Nat.reduceMul, ↓reduceIte, reduceCtorEq, if_true, if_false, ite_true, ite_false, Int.reduceLT, Int.reduceLE, ptr, Tryd.fa_39_10, Tryd.st_23, Tryd.fa_39_7, Tryd.st_3, Tryd.fa_39_6, Tryd.st_4, Tryd.len_23, Tryd.ld_39, callV_func Tryd.enters_20, allocV_zero Tryd.zero_25, Tryd.st_25, Tryd.ld_25, callV_func Tryd.enters_10, allocV_zero Tryd.zero_39, Tryd.st_39, callV_func Tryd.enters_18, Tryd.fa_25_0, Tryd.st_5, callV_func Tryd.enters_15, callV_func Tryd.enters_14, hd15,  hd_size,  hd_list, rs_tmp (show Tryd.f5.results = #[.tmp 8] from rfl)]
    refine of_run (x0 := h.tos) (x1 := h.ttl) (x2 := h.pro) (x3 := h.id) (x7 := 0) (x8 := h.s) (x9 := h.d) (b4 := h.b4) (b5 := h.b5) (b6 := false) (a := none) (m := 0) (c := 0) f fun σ16 hS16 => ?_
    have hS1416 := hS15.app hS16
    have no : ∀ x ∈ blks (.slice oa 0 oc), x ∉ [σ5.next] := fun x hx w => by have := hbo x hx; simp at w; omega
    have nb : ∀ x ∈ blks (.slice ba (B.take (k - 20)).length bc), x ∉ [σ5.next] := fun x hx w => by have := hbb x hx; simp at w; omega
    have ho16 : BAt σ16 (.slice oa 0 oc) [] := (SlAt.same (SlAt.same (SlAt.same ho hS10 nofun) hS11 no) hS1114 nofun).same hS1416 nofun
    have hb16 : BAt σ16 (.slice ba (B.take (k - 20)).length bc) (B.take (k - 20)) := (SlAt.same (SlAt.same (SlAt.same hb hS10 nofun) hS11 nb) hS1114 nofun).same hS1416 nofun
    simp (maxSteps := 2000000) only [B0, B1, B2, B3, B4, B5, B6, B7, Gd, extV, Nat.reduceLT, Nat.reduceEqDiff, Nat.reduceBEq, Nat.reduceAdd, Nat.reduceSub, Nat.reduceMul, ↓reduceIte, reduceCtorEq, if_true, if_false, ite_true, ite_false, Int.reduceLT, Int.reduceLE, ptr, Tryd.fa_39_10, Tryd.st_23, Tryd.fa_39_7, Tryd.st_3, Tryd.fa_39_6, Tryd.st_4, Tryd.len_23, Tryd.ld_39, callV_func Tryd.enters_20, allocV_zero Tryd.zero_25, Tryd.st_25, Tryd.ld_25, callV_func Tryd.enters_10, allocV_zero Tryd.zero_39, Tryd.st_39, callV_func Tryd.enters_18, Tryd.fa_25_0, Tryd.st_5, callV_func Tryd.enters_15, callV_func Tryd.enters_14, rs_tmp (show Tryd.f5.results = #[.tmp 8] from rfl)]
    refine same_run f ho16 (.inl ⟨rfl, rfl⟩) fun σ17 hS17 => ?_
    have cb := conv_bat (SlAt.same hb16 hS17 nofun)
    have hS417 : Same σ4 σ17 [] := (hS5.app hS514).app (hS1416.app hS17)
    obtain ⟨vk2, sk2, hRk2, _⟩ := (hCk.same hS417 nofun).take2 (kk := .i64) (t := 23) Tryd.underlying23 Tryd.size_5 (hRk.same hS417 nofun) (j := k - 20) (by omega)
    have ck2 := conv_slr hRk2
    have wk : IntKind.i64.wrap ((k : Int) - 20) = ((k - 20 : Nat) : Int) := by rw [wrap64 (by omega) (by omega)]; omega
    simp (maxSteps := 2000000) only [B0, B1, B2, B3, B4, B5, B6, B7, Gd, extV, Nat.reduceLT, Nat.reduceEqDiff, Nat.reduceBEq, Nat.reduceAdd, Nat.reduceSub, Nat.reduceMul, ↓reduceIte, reduceCtorEq, if_true, if_false, ite_true, ite_false, Int.reduceLT, Int.reduceLE, ptr, Tryd.fa_39_10, Tryd.st_23, Tryd.fa_39_7, Tryd.st_3, Tryd.fa_39_6, Tryd.st_4, Tryd.len_23, Tryd.ld_39, callV_func Tryd.enters_20, allocV_zero Tryd.zero_25, Tryd.st_25, Tryd.ld_25, callV_func Tryd.enters_10, allocV_zero Tryd.zero_39, Tryd.st_39, callV_func Tryd.enters_18, Tryd.fa_25_0, Tryd.st_5, callV_func Tryd.enters_15, callV_func Tryd.enters_14, cb,  wk,  sk2,  ck2,  Int.cast_ofNat_Int,  Int.reduceEq, rs_tmp (show Tryd.f5.results = #[.tmp 8] from rfl)]
    refine tells_run f (hG14.same (hS1416.app hS17)) (by omega) fun σ18 hS18 => ?_
    simp (maxSteps := 2000000) only [B0, B1, B2, B3, B4, B5, B6, B7, Gd, extV, Nat.reduceLT, Nat.reduceEqDiff, Nat.reduceBEq, Nat.reduceAdd, Nat.reduceSub, Nat.reduceMul, ↓reduceIte, reduceCtorEq, if_true, if_false, ite_true, ite_false, Int.reduceLT, Int.reduceLE, ptr, Tryd.fa_39_10, Tryd.st_23, Tryd.fa_39_7, Tryd.st_3, Tryd.fa_39_6, Tryd.st_4, Tryd.len_23, Tryd.ld_39, callV_func Tryd.enters_20, allocV_zero Tryd.zero_25, Tryd.st_25, Tryd.ld_25, callV_func Tryd.enters_10, allocV_zero Tryd.zero_39, Tryd.st_39, callV_func Tryd.enters_18, Tryd.fa_25_0, Tryd.st_5, callV_func Tryd.enters_15, callV_func Tryd.enters_14, hd14,  hd15,  hd_size,  hd_list,  RetAt_mkg,  RetAt_lastg,  wanted_g (P := Tryd.prog),  wantB_tt,  wantB_ff,  wantB_tf,  wantB_ft,  wantB_un,  true_implies,  implies_true, rs_tmp (show Tryd.f5.results = #[.tmp 8] from rfl)]
    exact ⟨same_hd, same_hd⟩
end Go.Proofs.YtongccpmdndcgaaDoor.Icm
end
/- The arguments of IcmpQuotes; IcmpQuotes in the model's words. -/
section
set_option linter.all false
namespace Go.Proofs.YtongccpmdndcgaaDoor.Icm
open Go Go.AE Go.Proofs Go.RowKit Go.ChangeShapes Go.WideShapes Go.Maps
set_option maxRecDepth 100000
set_option maxHeartbeats 1000000

theorem word_of {n : Int} (h : (Lit.int .u16 n).wf = true) : ∃ m : Nat, n = (m : Int) ∧ m < 65536 := by
  simp [Lit.wf, IntKind.min, IntKind.max, IntKind.bits, IntKind.signed] at h
  exact ⟨n.toNat, by omega, by omega⟩
theorem long_of {n : Int} (h : (Lit.int .u32 n).wf = true) : ∃ m : Nat, n = (m : Int) ∧ m < 4294967296 := by
  simp [Lit.wf, IntKind.min, IntKind.max, IntKind.bits, IntKind.signed] at h
  exact ⟨n.toNat, by omega, by omega⟩
theorem head_in {H : Type} {enc : TypeId × Value → H} {W : World} {held : Bool} {v : Value} {d : DataW H} {ps : List MemPlace}
    {base' : Nat} (ho : Value.okWide Tryd.prog W .any base' 39 v) (h : DataW.Trod enc Tryd.prog W 0 (fun _ => true) held 39 v d ps) :
    ∃ (hd : Hd) (b6 : Bool) (off : Int) (A : Option Addr) (n cap : Nat) (d' : DataW H) (ps' : List MemPlace), hd.ok ∧ v = .agg (genL hd.tos hd.ttl hd.pro hd.id hd.b4 hd.b5 b6 off hd.s hd.d (.slice A n cap)).toArray ∧ DataW.Trod enc Tryd.prog W 0 (fun _ => true) held 23 (.slice A n cap) d' ps' := by
  obtain ⟨cs, rfl, hcs⟩ := okWide_struct Tryd.underlying39 ho
  rw [show Tryd.prog.cellsOf 39 = 11 by kernel_rfl] at hcs
  obtain ⟨fuel, hf⟩ := h
  have hf' : DataW.trod enc Tryd.prog W 0 (fun _ => true) held fuel 39 cs.toList = some (d, ps) := by simpa [Value.cells] using hf
  obtain ⟨c0, c1, c2, c3, c4, c5, c6, c7, c8, c9, c10, rfl⟩ : ∃ c0 c1 c2 c3 c4 c5 c6 c7 c8 c9 c10, cs = #[c0, c1, c2, c3, c4, c5, c6, c7, c8, c9, c10] := by
    rcases cs with ⟨l⟩
    rcases l with _ | ⟨c0, _ | ⟨c1, _ | ⟨c2, _ | ⟨c3, _ | ⟨c4, _ | ⟨c5, _ | ⟨c6, _ | ⟨c7, _ | ⟨c8, _ | ⟨c9, _ | ⟨c10, _ | ⟨c11, l⟩⟩⟩⟩⟩⟩⟩⟩⟩⟩⟩⟩
    all_goals first | (simp at hcs; done) | exact ⟨_, _, _, _, _, _, _, _, _, _, _, rfl⟩ | (simp at hcs; omega)
  obtain ⟨ys, m, rfl, hx, _, hlen, hfl⟩ := DataW.trod_struct Tryd.underlying39 hf'
  have one : ∀ i, i < 11 → ∃ y, ys[i]? = some y := fun i hi => ⟨ys[i]'(by rw [hlen]; exact hi), List.getElem?_eq_getElem _⟩
  have s3 : Tryd.prog.cellsOf 3 = 1 := by kernel_rfl
  have s4 : Tryd.prog.cellsOf 4 = 1 := by kernel_rfl
  have s5 : Tryd.prog.cellsOf 5 = 1 := by kernel_rfl
  have s23 : Tryd.prog.cellsOf 23 = 1 := by kernel_rfl
  have s35 : Tryd.prog.cellsOf 35 = 1 := by kernel_rfl
  have s37 : Tryd.prog.cellsOf 37 = 1 := by kernel_rfl
  have g0 : DataW.trod enc Tryd.prog W 0 (fun _ => true) held m 5 [c0] = ys[0]? := by
    have g := hfl 0 _ rfl
    change DataW.trod enc Tryd.prog W 0 (fun _ => true) held m 5 (List.take (Tryd.prog.cellsOf 5) [c0, c1, c2, c3, c4, c5, c6, c7, c8, c9, c10]) = _ at g
    rw [s5] at g
    exact g
  obtain ⟨y0, e0⟩ := one 0 (by omega)
  rw [e0] at g0
  have g1 : DataW.trod enc Tryd.prog W 0 (fun _ => true) held m 5 [c1] = ys[1]? := by
    have g := hfl 1 _ rfl
    change DataW.trod enc Tryd.prog W 0 (fun _ => true) held m 5 (List.take (Tryd.prog.cellsOf 5) [c1, c2, c3, c4, c5, c6, c7, c8, c9, c10]) = _ at g
    rw [s5] at g
    exact g
  obtain ⟨y1, e1⟩ := one 1 (by omega)
  rw [e1] at g1
  have g2 : DataW.trod enc Tryd.prog W 0 (fun _ => true) held m 5 [c2] = ys[2]? := by
    have g := hfl 2 _ rfl
    change DataW.trod enc Tryd.prog W 0 (fun _ => true) held m 5 (List.take (Tryd.prog.cellsOf 5) [c2, c3, c4, c5, c6, c7, c8, c9, c10]) = _ at g
    rw [s5] at g
    exact g
  obtain ⟨y2, e2⟩ := one 2 (by omega)
  rw [e2] at g2
  have g3 : DataW.trod enc Tryd.prog W 0 (fun _ => true) held m 35 [c3] = ys[3]? := by
    have g := hfl 3 _ rfl
    change DataW.trod enc Tryd.prog W 0 (fun _ => true) held m 35 (List.take (Tryd.prog.cellsOf 35) [c3, c4, c5, c6, c7, c8, c9, c10]) = _ at g
    rw [s35] at g
    exact g
  obtain ⟨y3, e3⟩ := one 3 (by omega)
  rw [e3] at g3
  have g4 : DataW.trod enc Tryd.prog W 0 (fun _ => true) held m 4 [c4] = ys[4]? := by
    have g := hfl 4 _ rfl
    change DataW.trod enc Tryd.prog W 0 (fun _ => true) held m 4 (List.take (Tryd.prog.cellsOf 4) [c4, c5, c6, c7, c8, c9, c10]) = _ at g
    rw [s4] at g
    exact g
  obtain ⟨y4, e4⟩ := one 4 (by omega)
  rw [e4] at g4
  have g5 : DataW.trod enc Tryd.prog W 0 (fun _ => true) held m 4 [c5] = ys[5]? := by
    have g := hfl 5 _ rfl
    change DataW.trod enc Tryd.prog W 0 (fun _ => true) held m 4 (List.take (Tryd.prog.cellsOf 4) [c5, c6, c7, c8, c9, c10]) = _ at g
    rw [s4] at g
    exact g
  obtain ⟨y5, e5⟩ := one 5 (by omega)
  rw [e5] at g5
  have g6 : DataW.trod enc Tryd.prog W 0 (fun _ => true) held m 4 [c6] = ys[6]? := by
    have g := hfl 6 _ rfl
    change DataW.trod enc Tryd.prog W 0 (fun _ => true) held m 4 (List.take (Tryd.prog.cellsOf 4) [c6, c7, c8, c9, c10]) = _ at g
    rw [s4] at g
    exact g
  obtain ⟨y6, e6⟩ := one 6 (by omega)
  rw [e6] at g6
  have g7 : DataW.trod enc Tryd.prog W 0 (fun _ => true) held m 3 [c7] = ys[7]? := by
    have g := hfl 7 _ rfl
    change DataW.trod enc Tryd.prog W 0 (fun _ => true) held m 3 (List.take (Tryd.prog.cellsOf 3) [c7, c8, c9, c10]) = _ at g
    rw [s3] at g
    exact g
  obtain ⟨y7, e7⟩ := one 7 (by omega)
  rw [e7] at g7
  have g8 : DataW.trod enc Tryd.prog W 0 (fun _ => true) held m 37 [c8] = ys[8]? := by
    have g := hfl 8 _ rfl
    change DataW.trod enc Tryd.prog W 0 (fun _ => true) held m 37 (List.take (Tryd.prog.cellsOf 37) [c8, c9, c10]) = _ at g
    rw [s37] at g
    exact g
  obtain ⟨y8, e8⟩ := one 8 (by omega)
  rw [e8] at g8
  have g9 : DataW.trod enc Tryd.prog W 0 (fun _ => true) held m 37 [c9] = ys[9]? := by
    have g := hfl 9 _ rfl
    change DataW.trod enc Tryd.prog W 0 (fun _ => true) held m 37 (List.take (Tryd.prog.cellsOf 37) [c9, c10]) = _ at g
    rw [s37] at g
    exact g
  obtain ⟨y9, e9⟩ := one 9 (by omega)
  rw [e9] at g9
  have g10 : DataW.trod enc Tryd.prog W 0 (fun _ => true) held m 23 [c10] = ys[10]? := by
    have g := hfl 10 _ rfl
    change DataW.trod enc Tryd.prog W 0 (fun _ => true) held m 23 (List.take (Tryd.prog.cellsOf 23) [c10]) = _ at g
    rw [s23] at g
    exact g
  obtain ⟨y10, e10⟩ := one 10 (by omega)
  rw [e10] at g10
  obtain ⟨n0, f0, _, w0⟩ := DataW.trod_int Tryd.underlying5 g0
  obtain ⟨n1, f1, _, w1⟩ := DataW.trod_int Tryd.underlying5 g1
  obtain ⟨n2, f2, _, w2⟩ := DataW.trod_int Tryd.underlying5 g2
  obtain ⟨n3, f3, _, w3⟩ := DataW.trod_int Tryd.underlying35 g3
  obtain ⟨n4, f4, _⟩ := DataW.trod_bool (show Tryd.prog.underlying 4 = some .bool by kernel_rfl) g4
  obtain ⟨n5, f5, _⟩ := DataW.trod_bool (show Tryd.prog.underlying 4 = some .bool by kernel_rfl) g5
  obtain ⟨n6, f6, _⟩ := DataW.trod_bool (show Tryd.prog.underlying 4 = some .bool by kernel_rfl) g6
  obtain ⟨n7, f7, _, w7⟩ := DataW.trod_int Tryd.underlying3 g7
  obtain ⟨n8, f8, _, w8⟩ := DataW.trod_int Tryd.underlying37 g8
  obtain ⟨n9, f9, _, w9⟩ := DataW.trod_int Tryd.underlying37 g9
  obtain ⟨A, n, cap, f10⟩ : ∃ A n cap, [c10] = [.slice A n cap] := by
    rcases Deep.open_slice Tryd.underlying23 g10 with ⟨e, _⟩ | ⟨a', len', cap', m, n, Dd, Pl, e, _⟩
    · exact ⟨_, _, _, e⟩
    · exact ⟨_, _, _, e⟩
  simp only [List.cons.injEq, and_true] at f0 f1 f2 f3 f4 f5 f6 f7 f8 f9 f10
  subst f0 f1 f2 f3 f4 f5 f6 f7 f8 f9 f10
  obtain ⟨n0, rfl, l0⟩ := byte_of w0
  obtain ⟨n1, rfl, l1⟩ := byte_of w1
  obtain ⟨n2, rfl, l2⟩ := byte_of w2
  obtain ⟨n3, rfl, l3⟩ := word_of w3
  obtain ⟨n8, rfl, l8⟩ := long_of w8
  obtain ⟨n9, rfl, l9⟩ := long_of w9
  exact ⟨⟨n0, n1, n2, n3, n4, n5, n8, n9⟩, n6, n7, A, n, cap, _, _, ⟨l0, l1, l2, l3, l8, l9⟩, rfl, ⟨_, by simpa [Value.cells] using g10⟩⟩
theorem u8_in {H : Type} {enc : TypeId × Value → H} {W : World} {held : Bool} {v : Value} {d : DataW H} {p : List MemPlace} {base' : Nat} (ho : Value.okWide Tryd.prog W .any base' 5 v) (h : DataW.Trod enc Tryd.prog W 0 (fun _ => true) held 5 v d p) : ∃ n : Nat, v = .int .u8 (n : Int) ∧ n < 256 := by
  obtain ⟨n, rfl, _, _, hw⟩ := open_int Tryd.underlying5 ho h
  obtain ⟨m, rfl, hm⟩ := byte_of hw
  exact ⟨m, rfl, hm⟩
/-- IcmpQuotes, in the model's words. -/
theorem quotes_law {H : Type} {enc : TypeId × Value → H} {l : List (String × DataW Unit)} {W : World} {ps : List MemPlace} (hL : DataW.LaidVars Tryd.prog W l ps) (hm : ("toll/icmp.kinds", Rows.laid_toll_icmp_kinds) ∈ l) {held : Bool} {v0 v1 v2 v3 : Value} {d0 d1 d2 d3 : DataW H} {p0 p1 p2 p3 : List MemPlace} {base' : Nat}
    (o0 : Value.okWide Tryd.prog W .any base' 39 v0) (h0 : DataW.Trod enc Tryd.prog W 0 (fun _ => true) held 39 v0 d0 p0) (o1 : Value.okWide Tryd.prog W .any base' 23 v1) (h1 : DataW.Trod enc Tryd.prog W 0 (fun _ => true) held 23 v1 d1 p1)
    (o2 : Value.okWide Tryd.prog W .any base' 5 v2) (h2 : DataW.Trod enc Tryd.prog W 0 (fun _ => true) held 5 v2 d2 p2) (o3 : Value.okWide Tryd.prog W .any base' 5 v3) (h3 : DataW.Trod enc Tryd.prog W 0 (fun _ => true) held 5 v3 d3 p3) :
    Calls Tryd.prog 5 #[v0, v1, v2, v3] W fun e W' => e = .returned (.bool true) ∧ Below W.heap.size W W' := by
  obtain ⟨σ0, ρ0, hR0, hG0, hGl, hro0⟩ := kinds_base hL hm
  obtain ⟨hd, b6, off, A, n, cap, d', ps', hok, rfl, hT⟩ := head_in o0 h0
  obtain ⟨pa, rfl, hpa⟩ := u8_in o2 h2
  obtain ⟨pb, rfl, hpb⟩ := u8_in o3 h3
  obtain ⟨A1, n1, c1, rfl⟩ := okWide_slice Tryd.underlying23 o1
  have enc256 : Enc 1 (fun z : Fin 256 => encB z.val) := ⟨fun _ => rfl, fun x v hv => encBOk.single x.val v hv, by omega⟩
  have at256 : ∀ x : Fin 256, ∀ v ∈ encB x.val, atom v = true := fun x v hv => by simp [encB] at hv; subst hv; rfl
  obtain ⟨σ1, ρ1, va, Ba, hR1, hva, hSa, hro1, hCa, hSame1, hle1⟩ := slice_arg_on (P := Tryd.prog) (α := Fin 256) (enc' := fun z : Fin 256 => encB z.val) (k := 1) enc256 at256 hR0 hro0 Tryd.underlying23 (by kernel_rfl) dec_u8 hT
  obtain ⟨σ2, ρ2, vb, Bb, hR2, hvb, hSb, hro2, hCb, hSame2, hle2⟩ := slice_arg_on (P := Tryd.prog) (α := Fin 256) (enc' := fun z : Fin 256 => encB z.val) (k := 1) enc256 at256 hR1 hro1 Tryd.underlying23 (by kernel_rfl) dec_u8 h1
  obtain ⟨ao, co, rfl⟩ := hSa.len
  have run := quotes5_run (orc := fun _ => none) (n := 1000) ⟨fun _ => rfl⟩ (h := hd) (b6 := b6) (off := off) (ao := ao) (lo := Ba.length) (co := co) (v0 := vb) (pa := pa) (pb := pb) ((hGl.same hSame1).same hSame2) hok (byt_fin Bb) hpa hpb (slr_bytes hSb) hCb (by omega)
  refine open_true_g (D := True) (by kernel_rfl) orc_none ((hG0.mono hle1).mono hle2) hR2 hro2 (.cons (VR.agg_iff ?_) (.cons hvb (.cons (.atom rfl) (.cons (.atom rfl) .nil)))) run
  exact .cons (.atom rfl) (.cons (.atom rfl) (.cons (.atom rfl) (.cons (.atom rfl) (.cons (.atom rfl) (.cons (.atom rfl) (.cons (.atom rfl) (.cons (.atom rfl) (.cons (.atom rfl) (.cons (.atom rfl) (.cons (hva.mono hle2) .nil))))))))))
end Go.Proofs.YtongccpmdndcgaaDoor.Icm
end
