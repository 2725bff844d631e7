/- Texts of this proof, gathered. What each part says stands at its head; conditions: none but those that its theorems name. -/
import Derived.Test.YtongccpmdndcgaaE4
import Derived.Test.YtongccpmdndcgaaFac
import Derived.Test.YtongccpmdndcgaaTol
/- Heaps: plain laws on a binary heap given by a function on places. -/
section
set_option linter.all false
namespace Go.Hp
variable {α : Type}

/-- An order without equals. -/
structure Ord (lt : α → α → Prop) : Prop where
  tr : ∀ a b c, ¬ lt b a → ¬ lt c b → ¬ lt c a
  asy : ∀ a b, lt a b → ¬ lt b a

def sw (f : Nat → α) (i j : Nat) : Nat → α := fun k => if k = i then f j else if k = j then f i else f k
def Heap (lt : α → α → Prop) (f : Nat → α) (n : Nat) : Prop := ∀ j, 0 < j → j < n → ¬ lt (f j) (f ((j - 1) / 2))
/-- A heap but at k. -/
def Exc (lt : α → α → Prop) (f : Nat → α) (n k : Nat) : Prop :=
  (∀ j, 0 < j → j < n → j ≠ k → (j - 1) / 2 ≠ k → ¬ lt (f j) (f ((j - 1) / 2))) ∧ (0 < k → ∀ c, 0 < c → c < n → (c - 1) / 2 = k → ¬ lt (f c) (f ((k - 1) / 2)))
def Kids (lt : α → α → Prop) (f : Nat → α) (n k : Nat) : Prop := ∀ c, 0 < c → c < n → (c - 1) / 2 = k → ¬ lt (f c) (f k)
def Par (lt : α → α → Prop) (f : Nat → α) (k : Nat) : Prop := 0 < k → ¬ lt (f k) (f ((k - 1) / 2))
variable {lt : α → α → Prop}

theorem heap_of {f : Nat → α} {n k : Nat} (h : Exc lt f n k) (hk : Kids lt f n k) (hp : Par lt f k) : Heap lt f n := by
  intro j h0 h1
  by_cases e : j = k
  · subst e; exact hp h0
  · by_cases e2 : (j - 1) / 2 = k
    · rw [e2]; exact hk j h0 h1 e2
    · exact h.1 j h0 h1 e e2

/-- One step up. -/
theorem up_step (o : Ord lt) {f : Nat → α} {n k : Nat} (h : Exc lt f n k) (hk : Kids lt f n k) (hn : k < n) (h0 : 0 < k) (hl : lt (f k) (f ((k - 1) / 2))) :
    Exc lt (sw f ((k - 1) / 2) k) n ((k - 1) / 2) ∧ Kids lt (sw f ((k - 1) / 2) k) n ((k - 1) / 2) := by
  have hi : (k - 1) / 2 < k := by omega
  refine ⟨⟨fun j j0 jn e1 e2 => ?_, fun i0 c c0 cn ec => ?_⟩, fun c c0 cn ec => ?_⟩
  · unfold sw
    rw [if_neg e1, if_neg e2]
    by_cases e3 : j = k
    · subst e3; exact absurd rfl e2
    · rw [if_neg e3]
      by_cases e4 : (j - 1) / 2 = k
      · rw [if_pos e4]; exact h.2 h0 j j0 jn e4
      · rw [if_neg e4]; exact h.1 j j0 jn e3 e4
  · unfold sw
    have e5 : ¬ ((k - 1) / 2 - 1) / 2 = (k - 1) / 2 := by omega
    have e6 : ¬ ((k - 1) / 2 - 1) / 2 = k := by omega
    rw [if_neg e5, if_neg e6]
    have hg : ¬ lt (f ((k - 1) / 2)) (f (((k - 1) / 2 - 1) / 2)) := h.1 _ i0 (by omega) (by omega) (by omega)
    by_cases e3 : c = k
    · subst e3; rw [if_neg (by omega), if_pos rfl]; exact hg
    · rw [if_neg (by omega), if_neg e3]
      exact o.tr _ _ _ hg (ec ▸ h.1 c c0 cn e3 (by omega))
  · unfold sw
    rw [if_pos rfl]
    by_cases e3 : c = k
    · subst e3; rw [if_neg (by omega), if_pos rfl]; exact o.asy _ _ hl
    · rw [if_neg (by omega), if_neg e3]
      exact o.tr _ _ _ (o.asy _ _ hl) (ec ▸ h.1 c c0 cn e3 (by omega))

/-- One step down. -/
theorem down_step (o : Ord lt) {f : Nat → α} {n i j : Nat} (h : Exc lt f n i) (hj : j = 2 * i + 1 ∨ j = 2 * i + 2) (hn : j < n)
    (hmin : ∀ c, c = 2 * i + 1 ∨ c = 2 * i + 2 → c < n → ¬ lt (f c) (f j)) (hl : lt (f j) (f i)) :
    Exc lt (sw f i j) n j ∧ Par lt (sw f i j) j := by
  refine ⟨⟨fun c c0 cn e1 e2 => ?_, fun _ c c0 cn ec => ?_⟩, fun _ => ?_⟩
  · unfold sw
    rw [if_neg e1, if_neg e2]
    by_cases e3 : c = i
    · subst e3
      rw [if_pos rfl, if_neg (by omega)]
      exact h.2 c0 j (by omega) hn (by omega)
    · rw [if_neg e3]
      by_cases e4 : (c - 1) / 2 = i
      · rw [if_pos e4]; exact hmin c (by omega) cn
      · rw [if_neg e4]; exact h.1 c c0 cn e3 e4
  · unfold sw
    have e5 : (j - 1) / 2 = i := by omega
    rw [e5, if_pos rfl, if_neg (by omega), if_neg (by omega)]
    exact ec ▸ h.1 c c0 cn (by omega) (by omega)
  · unfold sw
    have e5 : (j - 1) / 2 = i := by omega
    rw [e5, if_pos rfl, if_neg (by omega), if_pos rfl]
    exact o.asy _ _ hl
/-- What is put for another one. -/
theorem exc_of (o : Ord lt) {f : Nat → α} {n m k : Nat} {g : Nat → α} (h : Heap lt f n) (hm : m ≤ n) (hk : k < n) (hg : ∀ i, i < m → i ≠ k → g i = f i) : Exc lt g m k := by
  refine ⟨fun j j0 jm e1 e2 => ?_, fun k0 c c0 cm ec => ?_⟩
  · rw [hg j jm e1, hg _ (by omega) e2]; exact h j j0 (by omega)
  · rw [hg c cm (by omega), hg _ (by omega) (by omega)]
    exact o.tr _ _ _ (h k k0 hk) (ec ▸ h c c0 (by omega))
theorem heap_min (o : Ord lt) {f : Nat → α} {n : Nat} (h : Heap lt f n) (hr : ∀ a, ¬ lt a a) : ∀ j, j < n → ¬ lt (f j) (f 0) := by
  intro j
  induction j using Nat.strongRecOn with
  | ind j ih =>
    intro hj
    by_cases e : j = 0
    · subst e; exact hr _
    · exact o.tr _ _ _ (ih _ (by omega) (by omega)) (h j (by omega) hj)
end Go.Hp
end
/- The alarms' order, as the evaluator runs it. -/
section
set_option linter.all false
namespace Go.Proofs.Ytongccpmdndcgaa.Alm
open Go Go.AE
set_option maxRecDepth 100000
variable {gs : List Nat} {orc : Orc} {n : Nat} {σ : AHeap} {Q : Value × AHeap → Prop}

theorem isNaN_int (ho : orc 185 = none) {x : Int} : W (acall Try.prog gs orc (n + 1) 185 [.int .i64 x] σ) Q = Q (.bool false, σ) := by
  rw [W_start (m := 6) (keep := []) Try.func185 rfl (by kernel_rfl) (by kernel_rfl) (by first | rfl | assumption | exact f.h185) (by rfl)]
  simp (maxSteps := 2000000) only [B0, B1, B2, B3, B4, B5, B6, B7, Gd, extV, Nat.reduceLT, Nat.reduceEqDiff, Nat.reduceBEq, Nat.reduceAdd, Nat.reduceSub, Nat.reduceMul, ↓reduceIte, reduceCtorEq, if_true, if_false, ite_true, ite_false, Int.reduceLT, Int.reduceLE, ptr, rs_tmp (show Try.f185.results = #[.tmp 2] from rfl)]
theorem isNaN_str (ho : orc 186 = none) {x : ByteArray} : W (acall Try.prog gs orc (n + 1) 186 [.string x] σ) Q = Q (.bool false, σ) := by
  rw [W_start (m := 6) (keep := []) Try.func186 rfl (by kernel_rfl) (by kernel_rfl) (by first | rfl | assumption | exact f.h186) (by rfl)]
  simp (maxSteps := 2000000) only [B0, B1, B2, B3, B4, B5, B6, B7, Gd, extV, Nat.reduceLT, Nat.reduceEqDiff, Nat.reduceBEq, Nat.reduceAdd, Nat.reduceSub, Nat.reduceMul, ↓reduceIte, reduceCtorEq, if_true, if_false, ite_true, ite_false, Int.reduceLT, Int.reduceLE, ptr, rs_tmp (show Try.f186.results = #[.tmp 2] from rfl)]
def cmpI (x y : Int) : Int := if x < y then -1 else if y < x then 1 else 0
def cmpS (x y : ByteArray) : Int := if sLt x y then -1 else if sLt x y || decide (x = y) then 0 else 1
theorem compare_int (ho : orc 152 = none) (ho2 : orc 185 = none) {x y : Int} : W (acall Try.prog gs orc (n + 2) 152 [.int .i64 x, .int .i64 y] σ) Q = Q (.int .i64 (cmpI x y), σ) := by
  rw [W_start (m := 20) (keep := []) Try.func152 rfl (by kernel_rfl) (by kernel_rfl) (by first | rfl | assumption | exact f.h152) (by rfl)]
  simp (maxSteps := 2000000) only [B0, B1, B2, B3, B4, B5, B6, B7, Gd, extV, Nat.reduceLT, Nat.reduceEqDiff, Nat.reduceBEq, Nat.reduceAdd, Nat.reduceSub, Nat.reduceMul, ↓reduceIte, reduceCtorEq, if_true, if_false, ite_true, ite_false, Int.reduceLT, Int.reduceLE, ptr, callV_func Try.enters_185, callV_func Try.enters_185,  List.append_nil,  isNaN_int ho2, rs_tmp (show Try.f152.results = #[.tmp 4] from rfl)]
  unfold cmpI
  by_cases h1 : x < y
  · simp (maxSteps := 2000000) only [B0, B1, B2, B3, B4, B5, B6, B7, Gd, extV, Nat.reduceLT, Nat.reduceEqDiff, Nat.reduceBEq, Nat.reduceAdd, Nat.reduceSub, Nat.reduceMul, ↓reduceIte, reduceCtorEq, if_true, if_false, ite_true, ite_false, Int.reduceLT, Int.reduceLE, ptr, callV_func Try.enters_185, h1, rs_tmp (show Try.f152.results = #[.tmp 4] from rfl)]
  · by_cases h2 : y < x
    · simp (maxSteps := 2000000) only [B0, B1, B2, B3, B4, B5, B6, B7, Gd, extV, Nat.reduceLT, Nat.reduceEqDiff, Nat.reduceBEq, Nat.reduceAdd, Nat.reduceSub, Nat.reduceMul, ↓reduceIte, reduceCtorEq, if_true, if_false, ite_true, ite_false, Int.reduceLT, Int.reduceLE, ptr, callV_func Try.enters_185, h1,  h2, rs_tmp (show Try.f152.results = #[.tmp 4] from rfl)]
    · simp (maxSteps := 2000000) only [B0, B1, B2, B3, B4, B5, B6, B7, Gd, extV, Nat.reduceLT, Nat.reduceEqDiff, Nat.reduceBEq, Nat.reduceAdd, Nat.reduceSub, Nat.reduceMul, ↓reduceIte, reduceCtorEq, if_true, if_false, ite_true, ite_false, Int.reduceLT, Int.reduceLE, ptr, callV_func Try.enters_185, h1,  h2, rs_tmp (show Try.f152.results = #[.tmp 4] from rfl)]
theorem compare_str (ho : orc 153 = none) (ho2 : orc 186 = none) {x y : ByteArray} : W (acall Try.prog gs orc (n + 2) 153 [.string x, .string y] σ) Q = Q (.int .i64 (cmpS x y), σ) := by
  rw [W_start (m := 20) (keep := []) Try.func153 rfl (by kernel_rfl) (by kernel_rfl) (by first | rfl | assumption | exact f.h153) (by rfl)]
  simp (maxSteps := 2000000) only [B0, B1, B2, B3, B4, B5, B6, B7, Gd, extV, Nat.reduceLT, Nat.reduceEqDiff, Nat.reduceBEq, Nat.reduceAdd, Nat.reduceSub, Nat.reduceMul, ↓reduceIte, reduceCtorEq, if_true, if_false, ite_true, ite_false, Int.reduceLT, Int.reduceLE, ptr, callV_func Try.enters_186, callV_func Try.enters_186,  isNaN_str ho2, rs_tmp (show Try.f153.results = #[.tmp 4] from rfl)]
  unfold cmpS
  cases h1 : sLt x y
  · by_cases h2 : x = y
    · simp (maxSteps := 2000000) only [B0, B1, B2, B3, B4, B5, B6, B7, Gd, extV, Nat.reduceLT, Nat.reduceEqDiff, Nat.reduceBEq, Nat.reduceAdd, Nat.reduceSub, Nat.reduceMul, ↓reduceIte, reduceCtorEq, if_true, if_false, ite_true, ite_false, Int.reduceLT, Int.reduceLE, ptr, callV_func Try.enters_186, h1,  h2,  Bool.or_true,  Bool.false_or, rs_tmp (show Try.f153.results = #[.tmp 4] from rfl)]
    · simp (maxSteps := 2000000) only [B0, B1, B2, B3, B4, B5, B6, B7, Gd, extV, Nat.reduceLT, Nat.reduceEqDiff, Nat.reduceBEq, Nat.reduceAdd, Nat.reduceSub, Nat.reduceMul, ↓reduceIte, reduceCtorEq, if_true, if_false, ite_true, ite_false, Int.reduceLT, Int.reduceLE, ptr, callV_func Try.enters_186, h1,  h2,  Bool.or_false,  Bool.false_or, rs_tmp (show Try.f153.results = #[.tmp 4] from rfl)]
  · simp (maxSteps := 2000000) only [B0, B1, B2, B3, B4, B5, B6, B7, Gd, extV, Nat.reduceLT, Nat.reduceEqDiff, Nat.reduceBEq, Nat.reduceAdd, Nat.reduceSub, Nat.reduceMul, ↓reduceIte, reduceCtorEq, if_true, if_false, ite_true, ite_false, Int.reduceLT, Int.reduceLE, ptr, callV_func Try.enters_186, h1, rs_tmp (show Try.f153.results = #[.tmp 4] from rfl)]
/-- The first that is not 0. -/
theorem or_two (ho : orc 151 = none) {b : Nat} {x y : Int} (h0 : ld σ b 0 = some (.int .i64 x)) (h1 : ld σ b 1 = some (.int .i64 y)) : W (acall Try.prog gs orc (n + 4) 151 [.slice (some ⟨b, 0, none⟩) 2 2] σ) Q = Q (.int .i64 (if x = 0 then y else x), σ) := by
  rw [W_start (m := 18) (keep := []) Try.func151 rfl (by kernel_rfl) (by kernel_rfl) (by first | rfl | assumption | exact f.h151) (by rfl)]
  by_cases hx : x = 0
  · by_cases hy : y = 0
    · simp (maxSteps := 2000000) only [B0, B1, B2, B3, B4, B5, B6, B7, Gd, extV, Nat.reduceLT, Nat.reduceEqDiff, Nat.reduceBEq, Nat.reduceAdd, Nat.reduceSub, Nat.reduceMul, ↓reduceIte, reduceCtorEq, if_true, if_false, ite_true, ite_false, Int.reduceLT, Int.reduceLE, ptr, Try.len_266, Try.ia_266, Try.ld_3, W_loop_unfold,  Try.len_266,  Try.ia_266,  Try.ld_3,  h0,  h1,  hx,  hy, rs_tmp (show Try.f151.results = #[.tmp 2] from rfl)]
    · simp (maxSteps := 2000000) only [B0, B1, B2, B3, B4, B5, B6, B7, Gd, extV, Nat.reduceLT, Nat.reduceEqDiff, Nat.reduceBEq, Nat.reduceAdd, Nat.reduceSub, Nat.reduceMul, ↓reduceIte, reduceCtorEq, if_true, if_false, ite_true, ite_false, Int.reduceLT, Int.reduceLE, ptr, Try.len_266, Try.ia_266, Try.ld_3, W_loop_unfold,  Try.len_266,  Try.ia_266,  Try.ld_3,  h0,  h1,  hx,  hy, rs_tmp (show Try.f151.results = #[.tmp 2] from rfl)]
  · simp (maxSteps := 2000000) only [B0, B1, B2, B3, B4, B5, B6, B7, Gd, extV, Nat.reduceLT, Nat.reduceEqDiff, Nat.reduceBEq, Nat.reduceAdd, Nat.reduceSub, Nat.reduceMul, ↓reduceIte, reduceCtorEq, if_true, if_false, ite_true, ite_false, Int.reduceLT, Int.reduceLE, ptr, Try.len_266, Try.ia_266, Try.ld_3, W_loop_unfold,  Try.len_266,  Try.ia_266,  Try.ld_3,  h0,  h1,  hx, rs_tmp (show Try.f151.results = #[.tmp 2] from rfl)]
abbrev Al := ByteArray × Int
def ordI (x y : Al) : Int := if cmpI x.2 y.2 = 0 then cmpS x.1 y.1 else cmpI x.2 y.2
def alV (x : Al) : Value := .agg #[.string x.1, .int .i64 x.2]
theorem bs266 {τ : AHeap} {x y : Int} : buildSliceV Try.prog 266 2 [(0, .int .i64 x), (1, .int .i64 y)] τ = some (.slice (some ⟨τ.next, 0, none⟩) 2 2, (newCells τ 3 [.int .i64 x, .int .i64 y]).2) := bs_two Try.underlying266 Try.elem_3 rfl rfl
theorem order_run (h102 : orc 102 = none) (h151 : orc 151 = none) (h152 : orc 152 = none) (h153 : orc 153 = none) (h185 : orc 185 = none) (h186 : orc 186 = none) {x y : Al} (hQ : ∀ σ', Same σ σ' [] → Q (.int .i64 (ordI x y), σ')) :
    W (acall Try.prog gs orc (n + 5) 102 [alV x, alV y] σ) Q := by
  rw [W_start (m := 17) (keep := [1]) Try.func102 rfl (by kernel_rfl) (by kernel_rfl) (by first | rfl | assumption | exact f.h102) (by rfl)]
  simp (maxSteps := 2000000) only [B0, B1, B2, B3, B4, B5, B6, B7, Gd, extV, Nat.reduceLT, Nat.reduceEqDiff, Nat.reduceBEq, Nat.reduceAdd, Nat.reduceSub, Nat.reduceMul, ↓reduceIte, reduceCtorEq, if_true, if_false, ite_true, ite_false, Int.reduceLT, Int.reduceLE, ptr, Try.fa_32_1, Try.ld_2, callV_func Try.enters_152, Try.fa_32_0, Try.ld_9, callV_func Try.enters_153, callV_func Try.enters_151, alV,  Value.cells, rs_tmp (show Try.f102.results = #[.tmp 4] from rfl)]
  refine Eq.mpr (W_retold (ps := [(4, 6), (4, 8)]) ?h1 ?h2 (by simp)) ?h3
  case h1 => kernel_rfl
  case h2 => kernel_rfl
  simp (maxSteps := 2000000) only [B0, B1, B2, B3, B4, B5, B6, B7, Gd, extV, Nat.reduceLT, Nat.reduceEqDiff, Nat.reduceBEq, Nat.reduceAdd, Nat.reduceSub, Nat.reduceMul, ↓reduceIte, reduceCtorEq, if_true, if_false, ite_true, ite_false, Int.reduceLT, Int.reduceLE, ptr, Try.fa_32_1, Try.ld_2, callV_func Try.enters_152, Try.fa_32_0, Try.ld_9, callV_func Try.enters_153, callV_func Try.enters_151, Try.fa_32_0,  Try.fa_32_1,  Try.ld_2,  Try.ld_9,  ld_newCells,  next_newCells,  ne_add_one,  add_one_ne,  callV_func Try.enters_152,  callV_func Try.enters_153,  compare_int h152 h185,  compare_str h153 h186,  bs266,  callV_func Try.enters_151, rs_tmp (show Try.f102.results = #[.tmp 4] from rfl)]
  rw [or_two h151 (x := cmpI x.2 y.2) (y := cmpS x.1 y.1) (by simp [ld_newCells, next_newCells]) (by simp [ld_newCells, next_newCells])]
  simp (maxSteps := 2000000) only [B0, B1, B2, B3, B4, B5, B6, B7, Gd, extV, Nat.reduceLT, Nat.reduceEqDiff, Nat.reduceBEq, Nat.reduceAdd, Nat.reduceSub, Nat.reduceMul, ↓reduceIte, reduceCtorEq, if_true, if_false, ite_true, ite_false, Int.reduceLT, Int.reduceLE, ptr, Try.fa_32_1, Try.ld_2, callV_func Try.enters_152, Try.fa_32_0, Try.ld_9, callV_func Try.enters_153, callV_func Try.enters_151, Try.fa_32_0,  Try.fa_32_1,  Try.ld_2,  Try.ld_9,  ld_newCells,  next_newCells,  ne_add_one,  add_one_ne,  callV_func Try.enters_152,  callV_func Try.enters_153,  compare_int h152 h185,  compare_str h153 h186,  bs266,  callV_func Try.enters_151, rs_tmp (show Try.f102.results = #[.tmp 4] from rfl)]
  exact hQ _ ((Same.newCells _ _ _ _).trans ((Same.newCells _ _ _ _).trans (Same.newCells _ _ _ _) nofun) nofun)
end Go.Proofs.Ytongccpmdndcgaa.Alm
end
/- Alarms in memory, and what their rows' methods do. -/
section
set_option linter.all false
namespace Go.Proofs.Ytongccpmdndcgaa.Alm
open Go Go.AE
set_option maxRecDepth 100000
variable {gs : List Nat} {orc : Orc} {n : Nat} {σ : AHeap} {Q : Value × AHeap → Prop}

def encA (x : Al) : List Value := [.string x.1, .int .i64 x.2]
theorem encOk : Enc 2 encA := ⟨fun _ => rfl, fun x v hv => by simp [encA] at hv; rcases hv with rfl | rfl <;> rfl, by omega⟩
abbrev pt (p : Nat) : Value := .pointer (some ⟨p, 0, none⟩)
/-- Alarms at p: their row, their places. -/
structure AlAt (σ : AHeap) (p : Nat) (sv : Value) (m : Nat) (A : List Al) (M : Prs) : Prop where
  lp : p < σ.next
  lm : m < σ.next
  pm : p ≠ m
  ps : p ∉ blks sv
  ms : m ∉ blks sv
  obj : ∃ np cp gp, σ.get p = some (.cells np cp 58 gp false) ∧ cp.get 0 = some sv ∧ cp.get 1 = some (.map (some m))
  row : SlAt σ 32 2 encA sv A
  map : MapAt σ m M
theorem AlAt.same {σ' : AHeap} {p m : Nat} {sv : Value} {A : List Al} {M : Prs} {F : List Nat} (h : AlAt σ p sv m A M) (hs : Same σ σ' F) (h1 : p ∉ F) (h2 : m ∉ F) (h3 : ∀ b ∈ blks sv, b ∉ F) : AlAt σ' p sv m A M :=
  ⟨Nat.lt_of_lt_of_le h.lp hs.next, Nat.lt_of_lt_of_le h.lm hs.next, h.pm, h.ps, h.ms, by obtain ⟨np, cp, gp, e, r⟩ := h.obj; exact ⟨np, cp, gp, by rw [hs.get p h.lp h1]; exact e, r⟩, h.row.same hs h3, h.map.of_get (hs.get m h.lm h2)⟩
theorem AlAt.same0 {σ' : AHeap} {p m : Nat} {sv : Value} {A : List Al} {M : Prs} (h : AlAt σ p sv m A M) (hs : Same σ σ' []) : AlAt σ' p sv m A M := h.same hs nofun nofun nofun
theorem AlAt.ld0 {p m : Nat} {sv : Value} {A : List Al} {M : Prs} (h : AlAt σ p sv m A M) : ld σ p 0 = some sv := by
  obtain ⟨np, cp, gp, e, h0, _⟩ := h.obj; simp only [ld, e, h0]
theorem AlAt.ld1 {p m : Nat} {sv : Value} {A : List Al} {M : Prs} (h : AlAt σ p sv m A M) : ld σ p 1 = some (.map (some m)) := by
  obtain ⟨np, cp, gp, e, _, h1⟩ := h.obj; simp only [ld, e, h1]
theorem meth_less {p : Nat} : method' Try.prog 4 175 (.agg #[pt p]) "Less" σ = some (234, .agg #[pt p]) := by kernel_rfl
theorem meth_swap {p : Nat} : method' Try.prog 4 175 (.agg #[pt p]) "Swap" σ = some (237, .agg #[pt p]) := by kernel_rfl
theorem meth_push {p : Nat} : method' Try.prog 4 175 (.agg #[pt p]) "Push" σ = some (236, .agg #[pt p]) := by kernel_rfl
theorem meth_pop {p : Nat} : method' Try.prog 4 175 (.agg #[pt p]) "Pop" σ = some (235, .agg #[pt p]) := by kernel_rfl
theorem meth_len {p : Nat} : method' Try.prog 4 175 (.agg #[pt p]) "Len" σ = some (20, pt p) := by kernel_rfl
abbrev rowsV (p : Nat) : Value := .iface 175 (.agg #[pt p])
/-- A thing of the row laid. -/
theorem AlAt.putRow {p m b o len cap : Nat} {A : List Al} {M : Prs} (h : AlAt σ p (.slice (some ⟨b, o, none⟩) len cap) m A M) {i : Nat} (hi : i < A.length) (y : Al) :
    ∃ σ', stCells σ b (o + i * 2) [.string y.1, .int .i64 y.2] = some σ' ∧ AlAt σ' p (.slice (some ⟨b, o, none⟩) len cap) m (A.set i y) M ∧ Same σ σ' [b] ∧ σ'.next = σ.next := by
  obtain ⟨b', o', cap', g, e, hc, hb, hr⟩ := h.row.at_ (List.getElem?_eq_getElem hi)
  injection e with e1 e2 e3
  injection e1 with e1
  injection e1 with e1 e4
  subst e1 e2 e3 e4
  obtain ⟨ob, h1, h2, _⟩ := hr.put encOk (show i < cap by omega) y
  have hs := Same.set σ b ob
  have hp : p ∉ [b] := fun q => h.ps (by simpa [blks] using q)
  have hm : m ∉ [b] := fun q => h.ms (by simpa [blks] using q)
  refine ⟨σ.set b ob, h1, ⟨h.lp, h.lm, h.pm, h.ps, h.ms, ?_, .inr (.inr ⟨b, o, cap, g, by rw [List.length_set], by rw [List.length_set]; exact hc, hb, h2 hi⟩), h.map.of_get (hs.get m h.lm hm)⟩, hs, rfl⟩
  obtain ⟨np, cp, gp, e, r⟩ := h.obj
  exact ⟨np, cp, gp, by rw [hs.get p h.lp hp]; exact e, r⟩
/-- A key's place laid. -/
theorem AlAt.putKey {p m : Nat} {sv : Value} {A : List Al} {M : Prs} (h : AlAt σ p sv m A M) {s : ByteArray} (hs : s.size ≤ 9223372036854775807) (v : Value) :
    ∃ v0 st σ1 σ2, mapEntry' Try.prog 56 (.map (some m)) (.string s) σ = some (.tuple #[v0, .int .i64 (st : Nat)], σ1) ∧ entryStore' (.map (some m)) (.int .i64 (st : Nat)) v σ1 = some σ2 ∧ AlAt σ2 p sv m A (mput M s v) ∧ Same σ σ2 [m] := by
  obtain ⟨v0, st, o1, o2, h1, h2, h3⟩ := entry_spec Try.underlying56 Try.underlying9 Try.zero_3 h.map hs v
  have hS : Same σ ((σ.set m o1).set m o2) [m] := (Same.set σ m o1).trans (Same.set _ m o2) (fun b hb => .inl hb)
  have hp : p ∉ [m] := fun q => h.pm (by simpa using q)
  have hb : ∀ b ∈ blks sv, b ∉ [m] := fun b hb q => h.ms (by simp at q; exact q ▸ hb)
  refine ⟨v0, st, _, _, h1, h2, ⟨Nat.lt_of_lt_of_le h.lp hS.next, Nat.lt_of_lt_of_le h.lm hS.next, h.pm, h.ps, h.ms, ?_, h.row.same hS hb, h3⟩, hS⟩
  obtain ⟨np, cp, gp, e, r⟩ := h.obj
  exact ⟨np, cp, gp, by rw [hS.get p h.lp hp]; exact e, r⟩
/-- The receiver boxed. -/
theorem boxed {p m : Nat} {sv : Value} {A : List Al} {M : Prs} (h : AlAt σ p sv m A M) : ∃ σ1, (newCells σ 175 [pt p]).2 = σ1 ∧ Same σ σ1 [] ∧ ld σ1 σ.next 0 = some (pt p) ∧ AlAt σ1 p sv m A M ∧ σ1.next = σ.next + 1 :=
  ⟨_, rfl, .newCells _ _ _ _, by rw [ld_newCells, if_pos rfl]; rfl, h.same0 (.newCells _ _ _ _), rfl⟩
/-- What the order asks of the table. -/
structure Free (orc : Orc) : Prop where
  h102 : orc 102 = none
  h151 : orc 151 = none
  h152 : orc 152 = none
  h153 : orc 153 = none
  h185 : orc 185 = none
  h186 : orc 186 = none
  h234 : orc 234 = none
  h235 : orc 235 = none
  h236 : orc 236 = none
  h237 : orc 237 = none
  h20 : orc 20 = none
  h99 : orc 99 = none
  h154 : orc 154 = none
  h156 : orc 156 = none
theorem less_run (f : Free orc) {p m : Nat} {sv : Value} {A : List Al} {M : Prs} (h : AlAt σ p sv m A M) {i j : Nat} {x y : Al} (hi : A[i]? = some x) (hj : A[j]? = some y)
    (hQ : ∀ σ', Same σ σ' [] → Q (.bool (decide (ordI x y < 0)), σ')) : W (acall Try.prog gs orc (n + 6) 234 [.agg #[pt p], .int .i64 (i : Int), .int .i64 (j : Int)] σ) Q := by
  obtain ⟨σ1, e1, hS1, hbx, h1, _⟩ := boxed h
  obtain ⟨b, o, cap, g, rfl, hcap, hb, hr⟩ := h1.row.at_ hi
  have hx := hr.ldCells encOk hi
  have hy := hr.ldCells encOk hj
  have li : i < A.length := (List.getElem?_eq_some_iff.1 hi).1
  have lj : j < A.length := (List.getElem?_eq_some_iff.1 hj).1
  simp only [encA] at hx hy
  rw [W_start (m := 25) (keep := []) Try.func234 rfl (by kernel_rfl) (by kernel_rfl) (by first | rfl | assumption | exact f.h234) (by rfl)]
  simp (maxSteps := 2000000) only [B0, B1, B2, B3, B4, B5, B6, B7, Gd, extV, Nat.reduceLT, Nat.reduceEqDiff, Nat.reduceBEq, Nat.reduceAdd, Nat.reduceSub, Nat.reduceMul, ↓reduceIte, reduceCtorEq, if_true, if_false, ite_true, ite_false, Int.reduceLT, Int.reduceLE, ptr, Try.fa_175_0, Try.ld_23, Try.fa_58_0, Try.ld_27, Try.ia_27, Try.ld_32, callV_func Try.enters_102, Value.cells,  e1,  hbx,  h1.ld0,  Try.fa_175_0,  Try.fa_58_0,  Try.ld_23,  Try.ld_27,  Try.ld_32,  Try.ia_27,  li,  lj,  hx,  hy,  callV_func Try.enters_102,  List.size_toArray, rs_tmp (show Try.f234.results = #[.tmp 6] from rfl)]
  refine order_run f.h102 f.h151 f.h152 f.h153 f.h185 f.h186 (x := x) (y := y) fun σ' hS => ?_
  simp (maxSteps := 2000000) only [B0, B1, B2, B3, B4, B5, B6, B7, Gd, extV, Nat.reduceLT, Nat.reduceEqDiff, Nat.reduceBEq, Nat.reduceAdd, Nat.reduceSub, Nat.reduceMul, ↓reduceIte, reduceCtorEq, if_true, if_false, ite_true, ite_false, Int.reduceLT, Int.reduceLE, ptr, Try.fa_175_0, Try.ld_23, Try.fa_58_0, Try.ld_27, Try.ia_27, Try.ld_32, callV_func Try.enters_102, rs_tmp (show Try.f234.results = #[.tmp 6] from rfl)]
  exact hQ σ' (hS1.trans hS nofun)
theorem len_run (f : Free orc) {p m : Nat} {sv : Value} {A : List Al} {M : Prs} (h : AlAt σ p sv m A M) : W (acall Try.prog gs orc (n + 2) 20 [pt p] σ) Q = Q (.int .i64 (A.length : Int), σ) := by
  obtain ⟨a, c, rfl, _⟩ := h.row.len
  have nn : ∀ {Q}, W (acall Try.prog gs orc (n + 1) 99 [pt p] σ) Q = Q (.bool false, σ) := by
    intro Q
    rw [W_start (m := 12) (keep := []) Try.func99 rfl (by kernel_rfl) (by kernel_rfl) (by first | rfl | assumption | exact f.h99) (by rfl)]
    simp (maxSteps := 2000000) only [B0, B1, B2, B3, B4, B5, B6, B7, Gd, extV, Nat.reduceLT, Nat.reduceEqDiff, Nat.reduceBEq, Nat.reduceAdd, Nat.reduceSub, Nat.reduceMul, ↓reduceIte, reduceCtorEq, if_true, if_false, ite_true, ite_false, Int.reduceLT, Int.reduceLE, ptr, Try.fa_58_1, Try.ld_56, bin_nilp Try.underlying23,  bin_nilm Try.underlying56,  Try.fa_58_1,  Try.ld_56,  h.ld1, rs_tmp (show Try.f99.results = #[.tmp 2] from rfl)]
  rw [W_start (m := 10) (keep := []) Try.func20 rfl (by kernel_rfl) (by kernel_rfl) (by first | rfl | assumption | exact f.h20) (by rfl)]
  simp (maxSteps := 2000000) only [B0, B1, B2, B3, B4, B5, B6, B7, Gd, extV, Nat.reduceLT, Nat.reduceEqDiff, Nat.reduceBEq, Nat.reduceAdd, Nat.reduceSub, Nat.reduceMul, ↓reduceIte, reduceCtorEq, if_true, if_false, ite_true, ite_false, Int.reduceLT, Int.reduceLE, ptr, callV_func Try.enters_99, Try.fa_58_0, Try.ld_27, Try.len_27, callV_func Try.enters_99,  nn,  Try.fa_58_0,  Try.ld_27,  h.ld0,  Try.len_27, rs_tmp (show Try.f20.results = #[.tmp 2] from rfl)]
theorem none_run (f : Free orc) {p m : Nat} {sv : Value} {A : List Al} {M : Prs} (h : AlAt σ p sv m A M) : W (acall Try.prog gs orc (n + 1) 99 [pt p] σ) Q = Q (.bool false, σ) := by
  rw [W_start (m := 12) (keep := []) Try.func99 rfl (by kernel_rfl) (by kernel_rfl) (by first | rfl | assumption | exact f.h99) (by rfl)]
  simp (maxSteps := 2000000) only [B0, B1, B2, B3, B4, B5, B6, B7, Gd, extV, Nat.reduceLT, Nat.reduceEqDiff, Nat.reduceBEq, Nat.reduceAdd, Nat.reduceSub, Nat.reduceMul, ↓reduceIte, reduceCtorEq, if_true, if_false, ite_true, ite_false, Int.reduceLT, Int.reduceLE, ptr, Try.fa_58_1, Try.ld_56, bin_nilp Try.underlying23,  bin_nilm Try.underlying56,  Try.fa_58_1,  Try.ld_56,  h.ld1, rs_tmp (show Try.f99.results = #[.tmp 2] from rfl)]
theorem swap_run (f : Free orc) {p m : Nat} {sv : Value} {A : List Al} {M : Prs} (h : AlAt σ p sv m A M) {i j : Nat} {x y : Al} (hi : A[i]? = some x) (hj : A[j]? = some y) (hxs : x.1.size ≤ 9223372036854775807) (hys : y.1.size ≤ 9223372036854775807)
    (hQ : ∀ σ', AlAt σ' p sv m ((A.set i y).set j x) (mput (mput M y.1 (.int .i64 (i : Int))) x.1 (.int .i64 (j : Int))) → Same σ σ' (m :: blks sv) → Q (.tuple #[], σ')) : W (acall Try.prog gs orc (n + 6) 237 [.agg #[pt p], .int .i64 (i : Int), .int .i64 (j : Int)] σ) Q := by
  obtain ⟨σ1, e1, hS1, hbx, h1, hn1⟩ := boxed h
  obtain ⟨b, o, cap, g, rfl, hcap, hb, hr⟩ := h1.row.at_ hi
  have li : i < A.length := (List.getElem?_eq_some_iff.1 hi).1
  have lj : j < A.length := (List.getElem?_eq_some_iff.1 hj).1
  have hx := hr.ldCells encOk hi
  have hy := hr.ldCells encOk hj
  simp only [encA] at hx hy
  obtain ⟨σ2, t2, h2, hS2, hn2⟩ := h1.putRow li y
  obtain ⟨σ3, t3, h3, hS3, hn3⟩ := h2.putRow (i := j) (by rw [List.length_set]; exact lj) x
  have hS : Same σ1 σ3 [b] := hS2.trans hS3 (fun c hc => .inl hc)
  have hbl : b < σ.next := by
    have := h.row.lt b (by simp [blks]); exact this
  have hbx3 : ld σ3 σ.next 0 = some (pt p) := by rw [hS.ld (by omega) (by simp; omega), hbx]
  obtain ⟨_, _, _, _, e, _, _, hr3⟩ := h3.row.at_ (i := j) (x := x) (by rw [List.getElem?_set_self (by rw [List.length_set]; exact lj)])
  injection e with e _ _
  injection e with e
  injection e with e e'
  subst e e'
  have gi : ((A.set i y).set j x)[i]? = some y := by
    by_cases q : j = i
    · subst q
      rw [List.getElem?_set_self (by rw [List.length_set]; exact lj)]
      rw [hi] at hj
      exact hj
    · rw [List.getElem?_set_ne q, List.getElem?_set_self li]
  have gj : ((A.set i y).set j x)[j]? = some x := by rw [List.getElem?_set_self (by rw [List.length_set]; exact lj)]
  have ki := hr3.ld (j := 0) (v := .string y.1) gi rfl
  have kj := hr3.ld (j := 0) (v := .string x.1) gj rfl
  rw [Nat.add_zero] at ki kj
  obtain ⟨v4, s4, σ4, σ5, m4, m5, h5, hS5⟩ := h3.putKey hys (.int .i64 (i : Int))
  obtain ⟨v6, s6, σ6, σ7, m6, m7, h7, hS7⟩ := h5.putKey hxs (.int .i64 (j : Int))
  rw [W_start (m := 70) (keep := []) Try.func237 rfl (by kernel_rfl) (by kernel_rfl) (by first | rfl | assumption | exact f.h237) (by rfl)]
  simp (maxSteps := 2000000) only [B0, B1, B2, B3, B4, B5, B6, B7, Gd, extV, Nat.reduceLT, Nat.reduceEqDiff, Nat.reduceBEq, Nat.reduceAdd, Nat.reduceSub, Nat.reduceMul, ↓reduceIte, reduceCtorEq, if_true, if_false, ite_true, ite_false, Int.reduceLT, Int.reduceLE, ptr, Try.fa_175_0, Try.ld_23, Try.fa_58_0, Try.ld_27, Try.ia_27, Try.ld_32, Try.st_32, Try.fa_58_1, Try.ld_56, Try.fa_32_0, Try.ld_9, Value.cells,  e1,  hbx,  hbx3,  h1.ld0,  h3.ld0,  h3.ld1,  Try.fa_175_0,  Try.fa_58_0,  Try.fa_58_1,  Try.fa_32_0,  Try.ld_23,  Try.ld_27,  Try.ld_32,  Try.ld_56,  Try.ld_9,  Try.ia_27,  Try.st_32,  li,  lj,  hx,  hy,  List.size_toArray,  t2,  t3,  ki,  kj,  aop_mapEntry,  aop_entryStore,  m4,  m5,  m6,  m7, rs_none (show Try.f237.results = #[] from rfl)]
  refine hQ σ7 h7 ?_
  refine (((hS1.app hS).app hS5).app hS7).mono fun c hc => ?_
  simp [blks] at hc ⊢
  omega
end Go.Proofs.Ytongccpmdndcgaa.Alm
end
/- Alarms: what Push and Pop of their rows do. -/
section
set_option linter.all false
namespace Go.Proofs.Ytongccpmdndcgaa.Alm
open Go Go.AE
set_option maxRecDepth 100000
variable {gs : List Nat} {orc : Orc} {n : Nat} {σ : AHeap} {Q : Value × AHeap → Prop}

/-- Another row laid. -/
theorem AlAt.reRow {σ5 : AHeap} {F : List Nat} {p m : Nat} {sv sv' : Value} {A A' : List Al} {M : Prs} (h : AlAt σ p sv m A M) (hS : Same σ σ5 F) (hpF : p ∉ F) (hmF : m ∉ F) (hr : SlAt σ5 32 2 encA sv' A') (hp : p ∉ blks sv') (hm : m ∉ blks sv') :
    ∃ σ', stCells σ5 p 0 [sv'] = some σ' ∧ AlAt σ' p sv' m A' M ∧ Same σ5 σ' [p] ∧ σ'.next = σ5.next := by
  obtain ⟨np, cp, gp, e, h0, h1⟩ := h.obj
  rw [← hS.get p h.lp hpF] at e
  have hsg : ∀ v ∈ [sv'], single v = true := by
    obtain ⟨a, c, rfl, _⟩ := hr.len
    intro v hv; simp at hv; subst hv; rfl
  obtain ⟨σ', c', s1, s2, s3, s4, s5⟩ := store_cells e (off := 0) (vs := [sv']) hsg (by intro j hj; simp at hj; subst hj; rw [h0]; rfl)
  have hp5 : p < σ5.next := Nat.lt_of_lt_of_le h.lp hS.next
  have hm5 : m < σ5.next := Nat.lt_of_lt_of_le h.lm hS.next
  refine ⟨σ', s1, ⟨by rw [s5]; exact hp5, by rw [s5]; exact hm5, h.pm, hp, hm, ⟨np, c', gp, s2, by rw [s3]; rfl, by rw [s3]; simpa using h1⟩, hr.same s4 (fun b hb q => hp (by simp at q; exact q ▸ hb)), (h.map.of_get (hS.get m h.lm hmF)).of_get (s4.get m hm5 (by simpa using fun q : m = p => h.pm q.symm))⟩, s4, s5⟩
theorem AlAt.putSl {p m : Nat} {sv sv' : Value} {A A' : List Al} {M : Prs} (h : AlAt σ p sv m A M) (hr : SlAt σ 32 2 encA sv' A') (hp : p ∉ blks sv') (hm : m ∉ blks sv') :
    ∃ σ', stCells σ p 0 [sv'] = some σ' ∧ AlAt σ' p sv' m A' M ∧ Same σ σ' [p] ∧ σ'.next = σ.next := h.reRow (.refl σ []) nofun nofun hr hp hm
theorem AlAt.delKey {p m : Nat} {sv : Value} {A : List Al} {M : Prs} (h : AlAt σ p sv m A M) (s : ByteArray) :
    ∃ σ', mapDel Try.prog 56 (.map (some m)) (.string s) σ = some σ' ∧ AlAt σ' p sv m A (mdel M s) ∧ Same σ σ' [m] := by
  obtain ⟨o, h1, h2⟩ := del_spec Try.underlying56 Try.underlying9 h.map s
  have hS := Same.set σ m o
  have hp : p ∉ [m] := fun q => h.pm (by simpa using q)
  have hb : ∀ b ∈ blks sv, b ∉ [m] := fun b hb q => h.ms (by simp at q; exact q ▸ hb)
  refine ⟨_, h1, ⟨h.lp, h.lm, h.pm, h.ps, h.ms, ?_, h.row.same hS hb, h2⟩, hS⟩
  obtain ⟨np, cp, gp, e, r⟩ := h.obj
  exact ⟨np, cp, gp, by rw [hS.get p h.lp hp]; exact e, r⟩
theorem AlAt.putOne {p m : Nat} {sv : Value} {A : List Al} {M : Prs} (h : AlAt σ p sv m A M) {s : ByteArray} (hs : s.size ≤ 9223372036854775807) (v : Value) :
    ∃ σ', mapPut Try.prog 56 (.map (some m)) (.string s) v σ = some σ' ∧ AlAt σ' p sv m A (mput M s v) ∧ Same σ σ' [m] := by
  obtain ⟨o, h1, h2⟩ := put_spec Try.underlying56 Try.underlying9 h.map hs v
  have hS := Same.set σ m o
  have hp : p ∉ [m] := fun q => h.pm (by simpa using q)
  have hb : ∀ b ∈ blks sv, b ∉ [m] := fun b hb q => h.ms (by simp at q; exact q ▸ hb)
  refine ⟨_, h1, ⟨h.lp, h.lm, h.pm, h.ps, h.ms, ?_, h.row.same hS hb, h2⟩, hS⟩
  obtain ⟨np, cp, gp, e, r⟩ := h.obj
  exact ⟨np, cp, gp, by rw [hS.get p h.lp hp]; exact e, r⟩
theorem builtin_del {t u : TypeId} {x k : Value} {σ' : AHeap} (h : mapDel Try.prog t x k σ = some σ') : builtin' Try.prog .delete #[t, u] [x, k] σ = some (.tuple #[], σ') := by
  have h0 : (#[t, u] : Array TypeId)[0]? = some t := rfl
  simp only [builtin', h0, Option.bind_some, h, Option.map_some]
theorem pop_run (f : Free orc) {p m : Nat} {sv : Value} {A : List Al} {x : Al} {M : Prs} (h : AlAt σ p sv m (A ++ [x]) M) (hl : A.length + 1 ≤ 1048576)
    (hQ : ∀ σ' sv', AlAt σ' p sv' m A (mdel M x.1) → blks sv' = blks sv → Same σ σ' [p, m] → Q (.iface 32 (alV x), σ')) : W (acall Try.prog gs orc (n + 1) 235 [.agg #[pt p]] σ) Q := by
  obtain ⟨σ1, e1, hS1, hbx, h1, hn1⟩ := boxed h
  have gx : (A ++ [x])[A.length]? = some x := by simp
  obtain ⟨b, o, cap, g, rfl, hcap, hb, hr⟩ := h1.row.at_ gx
  have hx := hr.ldCells encOk gx
  simp only [encA] at hx
  have hcap1 : A.length + 1 ≤ cap := by simpa using hcap
  obtain ⟨σ2, t2, hld, hldc, hS2, hn2⟩ := alloc_store (σ := σ1) (e := 32) (zs := [.string ⟨#[]⟩, .int .i64 0]) (vs := [.string x.1, .int .i64 x.2]) (g := false) (by intro v hv; simp at hv; rcases hv with rfl | rfl <;> rfl) (by simp)
  have hk0 : ld σ2 σ1.next 0 = some (.string x.1) := hld 0 _ rfl
  have h2 := h1.same0 hS2
  obtain ⟨b', o', cap', g', e, hcap2, hb2, hr2⟩ := h2.row.at_ gx
  injection e with e e3 e4
  injection e with e
  injection e with e e'
  subst e e' e4
  have hsl := slice_hi (kk := .i64) (h := A.length) Try.underlying27 Try.size_32 hr2 hcap2 (by omega) (by omega)
  have hrow : SlAt σ2 32 2 encA (.slice (some ⟨b, o, none⟩) A.length cap) A := .inr (.inr ⟨b, o, cap, g', rfl, by omega, hb2, by have := hr2.take A.length; simpa using this⟩)
  obtain ⟨σ3, t3, h3, hS3, hn3⟩ := h2.putSl hrow h2.ps h2.ms
  obtain ⟨σ4, t4, h4, hS4⟩ := h3.delKey x.1
  have hpl := h.lp
  have hml := h.lm
  have hbx2 : ld σ2 σ.next 0 = some (pt p) := by rw [hS2.ld (by omega) nofun, hbx]
  have hbx3 : ld σ3 σ.next 0 = some (pt p) := by rw [hS3.ld (by omega) (by simp; omega), hbx2]
  have hk3 : ld σ3 σ1.next 0 = some (.string x.1) := by rw [hS3.ld (by omega) (by simp; omega), hk0]
  have hc4 : ldCells σ4 σ1.next 0 2 = some [.string x.1, .int .i64 x.2] := by
    have hn4 := hS4.next
    rw [hS4.ldCells (by omega) (by simp; omega), hS3.ldCells (by omega) (by simp; omega)]; exact hldc
  have wl : IntKind.i64.wrap (((A ++ [x]).length : Nat) - 1 : Int) = (A.length : Int) := by
    rw [wrap64] <;> simp <;> omega
  have li : A.length < (A ++ [x]).length := by simp
  rw [W_start (m := 40) (keep := []) Try.func235 rfl (by kernel_rfl) (by kernel_rfl) (by first | rfl | assumption | exact f.h235) (by rfl)]
  simp (maxSteps := 2000000) only [B0, B1, B2, B3, B4, B5, B6, B7, Gd, extV, Nat.reduceLT, Nat.reduceEqDiff, Nat.reduceBEq, Nat.reduceAdd, Nat.reduceSub, Nat.reduceMul, ↓reduceIte, reduceCtorEq, if_true, if_false, ite_true, ite_false, Int.reduceLT, Int.reduceLE, ptr, Try.fa_175_0, Try.ld_23, Try.fa_58_0, Try.ld_27, Try.len_27, Try.ia_27, Try.ld_32, allocV_zero Try.zero_32, Try.st_32, Try.st_27, Try.fa_58_1, Try.ld_56, Try.fa_32_0, Try.ld_9, Try.mi_32, Value.cells,  e1,  hbx,  hbx2,  hbx3,  h1.ld0,  h2.ld0,  h3.ld1,  Try.fa_175_0,  Try.fa_58_0,  Try.fa_58_1,  Try.fa_32_0,  Try.ld_23,  Try.ld_27,  Try.ld_32,  Try.ld_56,  Try.ld_9,  Try.ia_27,  Try.st_32,  Try.st_27,  Try.len_27,  li,  hx,  List.size_toArray,  allocV_zero Try.zero_32,  t2,  t3,  wl,  hsl,  hk3,  builtin_del t4,  hc4,  Try.mi_32, rs_tmp (show Try.f235.results = #[.tmp 2] from rfl)]
  refine hQ σ4 _ h4 rfl ((((hS1.app hS2).app hS3).app hS4).mono fun c hc => ?_)
  simpa using hc
theorem assert_al {v : Value} : typeAssert' Try.prog (.iface 32 v) 32 true = some (.tuple #[v, .bool true]) := by kernel_rfl
theorem push_run (f : Free orc) {p m : Nat} {sv : Value} {A : List Al} {x : Al} {M : Prs} (h : AlAt σ p sv m A M) (hxs : x.1.size ≤ 9223372036854775807) (hl : A.length + 1 ≤ 1048576)
    (hQ : ∀ σ' sv', AlAt σ' p sv' m (A ++ [x]) (mput M x.1 (.int .i64 (A.length : Int))) → (∀ b ∈ blks sv', b ∈ blks sv ∨ σ.next ≤ b) → Same σ σ' (p :: m :: blks sv) → Q (.tuple #[], σ')) : W (acall Try.prog gs orc (n + 1) 236 [.agg #[pt p], .iface 32 (alV x)] σ) Q := by
  obtain ⟨σ1, e1, hS1, hbx, h1, hn1⟩ := boxed h
  obtain ⟨σ2, t2, hld, hldc, hS2, hn2⟩ := alloc_store (σ := σ1) (e := 32) (zs := [.string ⟨#[]⟩, .int .i64 0]) (vs := [.string x.1, .int .i64 x.2]) (g := false) (by intro v hv; simp at hv; rcases hv with rfl | rfl <;> rfl) (by simp)
  have hk0 : ld σ2 σ1.next 0 = some (.string x.1) := hld 0 _ rfl
  have h2 := h1.same0 hS2
  obtain ⟨σ3, t3, h3, hS3⟩ := h2.putOne hxs (.int .i64 (A.length : Int))
  have hpl := h.lp
  have hml := h.lm
  have hbx2 : ld σ2 σ.next 0 = some (pt p) := by rw [hS2.ld (by omega) nofun, hbx]
  have hbx3 : ld σ3 σ.next 0 = some (pt p) := by rw [hS3.ld (by omega) (by simp; omega), hbx2]
  have hc3 : ldCells σ3 σ1.next 0 2 = some [.string x.1, .int .i64 x.2] := by
    rw [hS3.ldCells (by omega) (by simp; omega)]; exact hldc
  obtain ⟨σ4, e4, hS4, hc4, hn4⟩ : ∃ σ4, (newCells σ3 32 [.string x.1, .int .i64 x.2]).2 = σ4 ∧ Same σ3 σ4 [] ∧ ldCells σ4 σ3.next 0 2 = some [.string x.1, .int .i64 x.2] ∧ σ4.next = σ3.next + 1 := ⟨_, rfl, .newCells _ _ _ _, ldCells_newCells, rfl⟩
  have h4 := h3.same0 hS4
  obtain ⟨a, c, rfl, hac⟩ := h.row.len
  have hap := append_spec encOk h4.row [x] (by simpa using hl)
  obtain ⟨v5, σ5, t5, r5, hS5, hb5⟩ := hap
  have hn3 := hS3.next
  have hn34 : σ.next ≤ σ4.next := by omega
  have hp5 : p ∉ blks v5 := fun q => by rcases hb5 p q with q | q; exact h.ps q; omega
  have hm5 : m ∉ blks v5 := fun q => by rcases hb5 m q with q | q; exact h.ms q; omega
  obtain ⟨σ6, t6, h6, hS6, _⟩ := h4.reRow hS5 h.ps h.ms r5 hp5 hm5
  have hf : firstCells' 2 1 σ4 (.slice (some ⟨σ3.next, 0, none⟩) 1 1) = some [.string x.1, .int .i64 x.2] := hc4
  have t5' : appendCells 32 2 a A.length c 1 [.string x.1, .int .i64 x.2] σ4 = some (v5, σ5) := t5
  have hbx5 : ld σ5 σ.next 0 = some (pt p) := by
    rw [hS5.ld (by omega) (fun q => by have := h.row.lt _ q; omega), hS4.ld (by omega) nofun, hbx3]
  obtain ⟨a5, c5, rfl, _⟩ := r5.len
  have bs : ∀ {τ : AHeap}, buildSliceV Try.prog 27 1 [(0, .agg #[.string x.1, .int .i64 x.2])] τ = some (.slice (some ⟨τ.next, 0, none⟩) 1 1, (newCells τ 32 [.string x.1, .int .i64 x.2]).2) := bs_one Try.underlying27 Try.elem_32 rfl rfl (by decide)
  have hbx4 : ld σ4 σ.next 0 = some (pt p) := by rw [hS4.ld (by omega) nofun, hbx3]
  rw [W_start (m := 38) (keep := [4]) Try.func236 rfl (by kernel_rfl) (by kernel_rfl) (by first | rfl | assumption | exact f.h236) (by rfl)]
  simp (maxSteps := 2000000) only [B0, B1, B2, B3, B4, B5, B6, B7, Gd, extV, Nat.reduceLT, Nat.reduceEqDiff, Nat.reduceBEq, Nat.reduceAdd, Nat.reduceSub, Nat.reduceMul, ↓reduceIte, reduceCtorEq, if_true, if_false, ite_true, ite_false, Int.reduceLT, Int.reduceLE, ptr, allocV_zero Try.zero_32, Try.st_32, Try.fa_175_0, Try.ld_23, Try.fa_58_1, Try.ld_56, Try.fa_32_0, Try.ld_9, Try.fa_58_0, Try.ld_27, Try.len_27, Try.ld_32, Try.st_27, Value.cells,  e1,  alV,  assert_al,  hbx,  hbx2,  hbx3,  hbx4,  hbx5,  h1.ld0,  h2.ld0,  h2.ld1,  h3.ld0,  h4.ld0,  Try.fa_175_0,  Try.fa_58_0,  Try.fa_58_1,  Try.fa_32_0,  Try.ld_23,  Try.ld_27,  Try.ld_32,  Try.ld_56,  Try.ld_9,  Try.ia_27,  Try.st_32,  Try.st_27,  Try.len_27,  List.size_toArray,  allocV_zero Try.zero_32,  t2,  t3,  hk0,  hc3,  bs,  e4,  append_eq Try.underlying27 Try.underlying27 Try.elem_32 hf,  t5',  t6, rs_none (show Try.f236.results = #[] from rfl)]
  refine Eq.mpr (W_retold (ps := [(8, 1), (8, 3), (8, 6), (9, 1)]) ?h1 ?h2 (by simp)) ?h3
  case h1 => kernel_rfl
  case h2 => kernel_rfl
  simp (maxSteps := 2000000) only [B0, B1, B2, B3, B4, B5, B6, B7, Gd, extV, Nat.reduceLT, Nat.reduceEqDiff, Nat.reduceBEq, Nat.reduceAdd, Nat.reduceSub, Nat.reduceMul, ↓reduceIte, reduceCtorEq, if_true, if_false, ite_true, ite_false, Int.reduceLT, Int.reduceLE, ptr, allocV_zero Try.zero_32, Try.st_32, Try.fa_175_0, Try.ld_23, Try.fa_58_1, Try.ld_56, Try.fa_32_0, Try.ld_9, Try.fa_58_0, Try.ld_27, Try.len_27, Try.ld_32, Try.st_27, Value.cells,  e1,  alV,  assert_al,  hbx,  hbx2,  hbx3,  hbx4,  hbx5,  h1.ld0,  h2.ld0,  h2.ld1,  h3.ld0,  h4.ld0,  Try.fa_175_0,  Try.fa_58_0,  Try.fa_58_1,  Try.fa_32_0,  Try.ld_23,  Try.ld_27,  Try.ld_32,  Try.ld_56,  Try.ld_9,  Try.ia_27,  Try.st_32,  Try.st_27,  Try.len_27,  List.size_toArray,  allocV_zero Try.zero_32,  t2,  t3,  hk0,  hc3,  bs,  e4,  append_eq Try.underlying27 Try.underlying27 Try.elem_32 hf,  t5',  t6, rs_none (show Try.f236.results = #[] from rfl)]
  refine hQ σ6 _ h6 (fun b hb => (hb5 b hb).imp_right fun q => by omega) ((((((hS1.app hS2).app hS3).app hS4).app hS5).app hS6).mono fun c hc => ?_)
  simp at hc ⊢
  rcases hc with hc | hc | hc
  · exact .inr (.inl hc)
  · exact .inr (.inr hc)
  · exact .inl hc
end Go.Proofs.Ytongccpmdndcgaa.Alm
end
/- Alarms: their order, and heap.up. -/
section
set_option linter.all false
namespace Go.Proofs.Ytongccpmdndcgaa.Alm
open Go Go.AE Go.Hp
set_option maxRecDepth 100000
variable {gs : List Nat} {orc : Orc} {n : Nat} {σ : AHeap} {Q : Value × AHeap → Prop}

theorem less_lt : ∀ a b : List UInt8, Op.bytesLess a b = decide (a < b)
  | a, [] => by cases a <;> simp [Op.bytesLess]
  | [], b :: bs => by simp [Op.bytesLess]
  | a :: x, b :: y => by
    rw [Op.bytesLess, less_lt x y]
    have : (a :: x < b :: y) ↔ (a < b ∨ a = b ∧ x < y) := List.cons_lt_cons_iff
    by_cases h1 : a < b
    · simp [h1, this]
    · by_cases h2 : a = b
      · subst h2; simp [this]
      · simp [h1, h2, this]
theorem ba_ext {a b : ByteArray} (h : a.data.toList = b.data.toList) : a = b := by
  cases a with | mk x => cases b with | mk y => simp at h; rw [h]
theorem sLt_iff {a b : ByteArray} : sLt a b = true ↔ a.data.toList < b.data.toList := by unfold sLt; rw [less_lt]; simp
theorem sLt_tri (a b : ByteArray) : sLt a b = true ∨ a = b ∨ sLt b a = true := by
  rw [sLt_iff, sLt_iff]
  by_cases h1 : a.data.toList < b.data.toList
  · exact .inl h1
  · by_cases h2 : b.data.toList < a.data.toList
    · exact .inr (.inr h2)
    · exact .inr (.inl (ba_ext (List.le_antisymm (List.not_lt.1 h2) (List.not_lt.1 h1))))
theorem sLt_trans {a b c : ByteArray} (h : sLt a b = true) (k : sLt b c = true) : sLt a c = true := by rw [sLt_iff] at *; exact List.lt_trans h k
theorem sLt_irr (a : ByteArray) : sLt a a = false := by
  cases h : sLt a a with
  | false => rfl
  | true => exact absurd (sLt_iff.1 h) (List.lt_irrefl _)
theorem sLt_asymm {a b : ByteArray} (h : sLt a b = true) : sLt b a = false := by
  cases k : sLt b a with
  | false => rfl
  | true => have := sLt_trans h k; rw [sLt_irr] at this; cases this
/-- One alarm ahead of another one. -/
def lt (x y : Al) : Prop := ordI x y < 0
instance (x y : Al) : Decidable (lt x y) := inferInstanceAs (Decidable (ordI x y < 0))
theorem lt_iff {x y : Al} : lt x y ↔ x.2 < y.2 ∨ x.2 = y.2 ∧ sLt x.1 y.1 = true := by
  unfold lt ordI cmpI cmpS
  by_cases h1 : x.2 < y.2
  · simp [h1]
  · by_cases h2 : y.2 < x.2
    · have : ¬ x.2 = y.2 := by omega
      simp [h1, h2, this]
    · have : x.2 = y.2 := by omega
      by_cases h3 : sLt x.1 y.1 = true
      · simp [this, h3]
      · by_cases h4 : x.1 = y.1
        · simp [this, h4, sLt_irr]
        · simp [this, h3, h4]
theorem ordOk : Ord lt := by
  refine ⟨fun a b c h1 h2 => ?_, fun a b h => ?_⟩
  · rw [lt_iff] at *
    intro h
    rcases h with h | ⟨h, k⟩
    · by_cases q : a.2 < b.2
      · exact h2 (.inl (by omega))
      · by_cases q2 : a.2 = b.2
        · exact h2 (.inl (by omega))
        · exact h1 (.inl (by omega))
    · rcases sLt_tri b.1 a.1 with q | q | q
      · by_cases q2 : b.2 = a.2
        · exact h1 (.inr ⟨q2, q⟩)
        · by_cases q3 : b.2 < a.2
          · exact h1 (.inl q3)
          · exact h2 (.inl (by omega))
      · by_cases q2 : b.2 = a.2
        · exact h2 (.inr ⟨by omega, q ▸ k⟩)
        · by_cases q3 : b.2 < a.2
          · exact h1 (.inl q3)
          · exact h2 (.inl (by omega))
      · by_cases q2 : b.2 = a.2
        · exact h2 (.inr ⟨by omega, sLt_trans k q⟩)
        · by_cases q3 : b.2 < a.2
          · exact h1 (.inl q3)
          · exact h2 (.inl (by omega))
  · rw [lt_iff] at *
    intro k
    rcases h with h | ⟨h, h'⟩ <;> rcases k with k | ⟨k, k'⟩
    · omega
    · omega
    · omega
    · rw [sLt_asymm h'] at k'; cases k'
theorem lt_irr (a : Al) : ¬ lt a a := fun h => ordOk.asy a a h h
theorem lt_tri {x y : Al} (h1 : ¬ lt x y) (h2 : ¬ lt y x) : x = y := by
  rw [lt_iff] at h1 h2
  have e : x.2 = y.2 := by
    by_cases q : x.2 < y.2
    · exact absurd (.inl q) h1
    · by_cases q2 : y.2 < x.2
      · exact absurd (.inl q2) h2
      · omega
  rcases sLt_tri x.1 y.1 with q | q | q
  · exact absurd (.inr ⟨e, q⟩) h1
  · exact Prod.ext q e
  · exact absurd (.inr ⟨e.symm, q⟩) h2

theorem set_perm {A : List Al} {i j : Nat} {x y : Al} (hi : A[i]? = some x) (hj : A[j]? = some y) : ((A.set i y).set j x).Perm A := by
  have li : i < A.length := (List.getElem?_eq_some_iff.1 hi).1
  have lj : j < A.length := (List.getElem?_eq_some_iff.1 hj).1
  have h := Array.swap_perm (xs := A.toArray) (i := i) (j := j) (by simpa using li) (by simpa using lj)
  have h2 := Array.perm_iff_toList_perm.1 h
  have e1 : A[i] = x := by have := List.getElem?_eq_some_iff.1 hi; exact this.2
  have e2 : A[j] = y := by have := List.getElem?_eq_some_iff.1 hj; exact this.2
  simpa [Array.swap_def, e1, e2] using h2
/-- Each key's place. -/
structure Plc (A : List Al) (M : Prs) : Prop where
  at_ : ∀ (i : Nat) (x : Al), A[i]? = some x → mget M x.1 = some (.int .i64 (i : Int))
  len : M.length = A.length
  only : ∀ s, (mget M s).isSome = true → ∃ x ∈ A, x.1 = s
theorem Plc.inj {A : List Al} {M : Prs} (h : Plc A M) {i j : Nat} {x y : Al} (hi : A[i]? = some x) (hj : A[j]? = some y) (e : x.1 = y.1) : i = j := by
  have h1 := h.at_ i x hi
  have h2 := h.at_ j y hj
  rw [e, h2] at h1
  simp at h1
  omega
theorem Plc.swap {A : List Al} {M : Prs} (h : Plc A M) {i j : Nat} {x y : Al} (hi : A[i]? = some x) (hj : A[j]? = some y) : Plc ((A.set i y).set j x) (mput (mput M y.1 (.int .i64 (i : Int))) x.1 (.int .i64 (j : Int))) := by
  have li : i < A.length := (List.getElem?_eq_some_iff.1 hi).1
  have lj : j < A.length := (List.getElem?_eq_some_iff.1 hj).1
  refine ⟨fun q z hz => ?_, ?_, fun s hs => ?_⟩
  · rw [mget_mput, mget_mput]
    by_cases q1 : q = j
    · subst q1
      rw [List.getElem?_set_self (by rw [List.length_set]; exact lj)] at hz
      cases hz
      simp
    · rw [List.getElem?_set_ne (fun e => q1 e.symm)] at hz
      by_cases q2 : q = i
      · subst q2
        rw [List.getElem?_set_self li] at hz
        cases hz
        have : ¬ y.1 = x.1 := fun e => q1 (h.inj hi hj e.symm)
        simp [this]
      · rw [List.getElem?_set_ne (fun e => q2 e.symm)] at hz
        have e1 : ¬ z.1 = x.1 := fun e => q2 (h.inj hz hi e)
        have e2 : ¬ z.1 = y.1 := fun e => q1 (h.inj hz hj e)
        rw [if_neg e1, if_neg e2]
        exact h.at_ q z hz
  · have e1 : (mget M y.1).isSome = true := by rw [h.at_ j y hj]; rfl
    have e2 : (mget (mput M y.1 (.int .i64 (i : Int))) x.1).isSome = true := by
      rw [mget_mput]
      split
      · rfl
      · rw [h.at_ i x hi]; rfl
    rw [len_mput, if_pos e2, len_mput, if_pos e1, List.length_set, List.length_set]
    exact h.len
  · have pm : ∀ z ∈ A, ∃ x' ∈ (A.set i y).set j x, x'.1 = z.1 := fun z hz => ⟨z, (set_perm hi hj).mem_iff.2 hz, rfl⟩
    rw [mget_mput, mget_mput] at hs
    by_cases q1 : s = x.1
    · subst q1; exact pm x (List.mem_of_getElem? hi)
    · rw [if_neg q1] at hs
      by_cases q2 : s = y.1
      · subst q2; exact pm y (List.mem_of_getElem? hj)
      · rw [if_neg q2] at hs
        obtain ⟨z, hz, e⟩ := h.only s hs
        subst e
        exact pm z hz
/-- Alarms in memory, whole; F: their blocks. -/
structure AAt (σ : AHeap) (p : Nat) (F : List Nat) (A : List Al) : Prop where
  ex : ∃ sv m M, AlAt σ p sv m A M ∧ Plc A M ∧ F = p :: m :: blks sv
  keys : ∀ x ∈ A, x.1.size ≤ 64
theorem AAt.same {σ' : AHeap} {p : Nat} {F G : List Nat} {A : List Al} (h : AAt σ p F A) (hs : Same σ σ' G) (hd : ∀ b ∈ F, b ∉ G) : AAt σ' p F A := by
  obtain ⟨sv, m, M, h1, h2, rfl⟩ := h.ex
  exact ⟨⟨sv, m, M, h1.same hs (hd p (by simp)) (hd m (by simp)) (fun b hb => hd b (by simp [hb])), h2, rfl⟩, h.keys⟩
theorem AAt.lt {p : Nat} {F : List Nat} {A : List Al} (h : AAt σ p F A) : ∀ b ∈ F, b < σ.next := by
  obtain ⟨sv, m, M, h1, h2, rfl⟩ := h.ex
  intro b hb
  simp at hb
  rcases hb with rfl | rfl | hb
  · exact h1.lp
  · exact h1.lm
  · exact h1.row.lt b hb
/-- The row as a function. -/
def fA (A : List Al) (i : Nat) : Al := (A[i]?).getD (⟨#[]⟩, 0)
theorem fA_of {A : List Al} {i : Nat} {x : Al} (h : A[i]? = some x) : fA A i = x := by simp [fA, h]
theorem fA_sw {A : List Al} {i j : Nat} {x y : Al} (hi : A[i]? = some x) (hj : A[j]? = some y) : fA ((A.set i y).set j x) = sw (fA A) i j := by
  have li : i < A.length := (List.getElem?_eq_some_iff.1 hi).1
  have lj : j < A.length := (List.getElem?_eq_some_iff.1 hj).1
  funext q
  unfold sw
  by_cases q2 : q = i
  · subst q2
    rw [if_pos rfl]
    by_cases q1 : q = j
    · subst q1
      unfold fA
      rw [List.getElem?_set_self (by rw [List.length_set]; exact lj)]
      simp [hi, hj] at *
    · unfold fA
      rw [List.getElem?_set_ne (fun e => q1 e.symm), List.getElem?_set_self li]; simp [hj]
  · rw [if_neg q2]
    by_cases q1 : q = j
    · subst q1
      rw [if_pos rfl]
      unfold fA
      rw [List.getElem?_set_self (by rw [List.length_set]; exact lj)]
      simp [hi, hj] at *
    · rw [if_neg q1]
      unfold fA
      rw [List.getElem?_set_ne (fun e => q1 e.symm), List.getElem?_set_ne (fun e => q2 e.symm)]
end Go.Proofs.Ytongccpmdndcgaa.Alm
end
/- Alarms in order: plain laws. -/
section
set_option linter.all false
namespace Go.Proofs.Ytongccpmdndcgaa.Alm
open Go Go.AE Go.Hp

def insA (x : Al) : List Al → List Al
  | [] => [x]
  | y :: l => if lt x y then x :: y :: l else y :: insA x l
def remA (k : ByteArray) (L : List Al) : List Al := L.filter fun y => !decide (y.1 = k)
def getA (k : ByteArray) (L : List Al) : Option Int := (L.find? fun y => decide (y.1 = k)).map (·.2)
/-- Each key once. -/
def KD (L : List Al) : Prop := (L.map (·.1)).Nodup
theorem KD.perm {L M : List Al} (h : KD L) (p : L.Perm M) : KD M := (p.map _).nodup_iff.1 h
theorem insA_perm (x : Al) : ∀ L, (insA x L).Perm (x :: L)
  | [] => .refl _
  | y :: l => by
    rw [insA]
    split
    · exact .refl _
    · exact ((insA_perm x l).cons y).trans (.swap x y l)
theorem lt_trans {a b c : Al} (h : lt a b) (k : lt b c) : lt a c := by
  rw [lt_iff] at *
  rcases h with h | ⟨h, h'⟩ <;> rcases k with k | ⟨k, k'⟩
  · exact .inl (by omega)
  · exact .inl (by omega)
  · exact .inl (by omega)
  · exact .inr ⟨by omega, sLt_trans h' k'⟩
theorem insA_pair {x : Al} : ∀ {L : List Al}, L.Pairwise lt → (∀ y ∈ L, y.1 ≠ x.1) → (insA x L).Pairwise lt
  | [], _, _ => by simp [insA]
  | y :: l, h, hx => by
    have hy := List.pairwise_cons.1 h
    rw [insA]
    split
    · rename_i hl
      refine List.pairwise_cons.2 ⟨fun z hz => ?_, h⟩
      rcases List.mem_cons.1 hz with rfl | hz
      · exact hl
      · exact lt_trans hl (hy.1 z hz)
    · rename_i hl
      refine List.pairwise_cons.2 ⟨fun z hz => ?_, insA_pair hy.2 fun z hz => hx z (by simp [hz])⟩
      rcases List.mem_cons.1 ((insA_perm x l).mem_iff.1 hz) with rfl | hz
      · exact Classical.byContradiction fun q => hx y (by simp) (by rw [lt_tri q hl])
      · exact hy.1 z hz
theorem sorted_unique {L M : List Al} (p : L.Perm M) (h : L.Pairwise lt) (k : M.Pairwise lt) : L = M :=
  List.Perm.eq_of_pairwise (le := lt) (fun a b _ _ h1 h2 => absurd h2 (ordOk.asy _ _ h1)) h k p
theorem remA_pair {k : ByteArray} {L : List Al} (h : L.Pairwise lt) : (remA k L).Pairwise lt := h.sublist List.filter_sublist
theorem remA_perm {k : ByteArray} {L M : List Al} (p : L.Perm M) : (remA k L).Perm (remA k M) := p.filter _
theorem mem_remA {k : ByteArray} {L : List Al} {x : Al} : x ∈ remA k L ↔ x ∈ L ∧ x.1 ≠ k := by simp [remA]
theorem remA_not {k : ByteArray} {L : List Al} (h : ∀ y ∈ L, y.1 ≠ k) : remA k L = L := List.filter_eq_self.2 fun y hy => by simp [h y hy]
theorem remA_cons_self {x : Al} {L : List Al} (h : KD (x :: L)) : remA x.1 (x :: L) = L := by
  have h2 := List.nodup_cons.1 h
  have : ∀ y ∈ L, y.1 ≠ x.1 := fun y hy e => h2.1 (List.mem_map.2 ⟨y, hy, e⟩)
  rw [remA, List.filter_cons]
  simp only [decide_true, Bool.not_true, Bool.false_eq_true, if_false]
  exact remA_not this
theorem getA_mem {L : List Al} (h : KD L) {x : Al} (hx : x ∈ L) : getA x.1 L = some x.2 := by
  induction L with
  | nil => cases hx
  | cons y l ih =>
    have h2 := List.nodup_cons.1 h
    unfold getA
    rw [List.find?_cons]
    rcases List.mem_cons.1 hx with rfl | hx
    · simp
    · have : ¬ y.1 = x.1 := fun e => h2.1 (List.mem_map.2 ⟨x, hx, e.symm⟩)
      simp only [decide_eq_false this]
      exact ih h2.2 hx
theorem getA_none {L : List Al} {k : ByteArray} (h : ∀ y ∈ L, y.1 ≠ k) : getA k L = none := by
  unfold getA
  rw [List.find?_eq_none.2 fun y hy => by simp [h y hy]]
  rfl
theorem head_min {A L : List Al} {x : Al} (p : A.Perm (x :: L)) (hs : (x :: L).Pairwise lt) (hh : Heap lt (fA A) A.length) : A[0]? = some x := by
  have hl := p.length_eq
  simp at hl
  have h0 : 0 < A.length := by omega
  have e0 : A[0]? = some A[0] := List.getElem?_eq_getElem h0
  have hm : A[0] ∈ x :: L := p.mem_iff.1 (List.getElem_mem h0)
  rcases List.mem_cons.1 hm with e | hm
  · rw [e0, e]
  · obtain ⟨j, hj, ej⟩ := List.mem_iff_getElem.1 (p.mem_iff.2 (List.mem_cons_self (a := x) (l := L)))
    have h1 := heap_min ordOk hh lt_irr j hj
    rw [fA_of e0, fA_of (show A[j]? = some x by rw [List.getElem?_eq_getElem hj, ej])] at h1
    exact absurd ((List.pairwise_cons.1 hs).1 _ hm) h1
/-- What is due, and what is not. -/
def due (now : Int) (L : List Al) : List Al := L.takeWhile fun x => decide (x.2 ≤ now)
def left (now : Int) (L : List Al) : List Al := L.dropWhile fun x => decide (x.2 ≤ now)
end Go.Proofs.Ytongccpmdndcgaa.Alm
end
/- Alarms: heap.up and heap.down. -/
section
set_option linter.all false
namespace Go.Proofs.Ytongccpmdndcgaa.Alm
open Go Go.AE Go.Hp
set_option maxRecDepth 100000
variable {gs : List Nat} {orc : Orc} {n : Nat} {σ : AHeap} {Q : Value × AHeap → Prop}

theorem inv_less {call : CallF} {p : Nat} {args : List Value} : invokeV Try.prog call (.iface 175 (.agg #[pt p])) "Less" args σ = call 234 (.agg #[pt p] :: args) σ := by simp only [invokeV, meth_less, Try.enters_234]
theorem inv_swap {call : CallF} {p : Nat} {args : List Value} : invokeV Try.prog call (.iface 175 (.agg #[pt p])) "Swap" args σ = call 237 (.agg #[pt p] :: args) σ := by simp only [invokeV, meth_swap, Try.enters_237]
theorem inv_push {call : CallF} {p : Nat} {args : List Value} : invokeV Try.prog call (.iface 175 (.agg #[pt p])) "Push" args σ = call 236 (.agg #[pt p] :: args) σ := by simp only [invokeV, meth_push, Try.enters_236]
theorem inv_pop {call : CallF} {p : Nat} {args : List Value} : invokeV Try.prog call (.iface 175 (.agg #[pt p])) "Pop" args σ = call 235 (.agg #[pt p] :: args) σ := by simp only [invokeV, meth_pop, Try.enters_235]
theorem inv_len {call : CallF} {p : Nat} {args : List Value} : invokeV Try.prog call (.iface 175 (.agg #[pt p])) "Len" args σ = call 20 (pt p :: args) σ := by simp only [invokeV, meth_len, Try.enters_20]
theorem less' (f : Free orc) {p : Nat} {F : List Nat} {A : List Al} (h : AAt σ p F A) {i j : Nat} {x y : Al} (hi : A[i]? = some x) (hj : A[j]? = some y)
    (hQ : ∀ σ', AAt σ' p F A → Same σ σ' [] → Q (.bool (decide (lt x y)), σ')) : W (acall Try.prog gs orc (n + 6) 234 [.agg #[pt p], .int .i64 (i : Int), .int .i64 (j : Int)] σ) Q := by
  obtain ⟨sv, m, M, h1, h2, rfl⟩ := h.ex
  exact less_run f h1 hi hj fun σ' hS => hQ σ' (h.same hS nofun) hS
theorem swap' (f : Free orc) {p : Nat} {F : List Nat} {A : List Al} (h : AAt σ p F A) {i j : Nat} {x y : Al} (hi : A[i]? = some x) (hj : A[j]? = some y)
    (hQ : ∀ σ', AAt σ' p F ((A.set i y).set j x) → Same σ σ' F → Q (.tuple #[], σ')) : W (acall Try.prog gs orc (n + 6) 237 [.agg #[pt p], .int .i64 (i : Int), .int .i64 (j : Int)] σ) Q := by
  obtain ⟨sv, m, M, h1, h2, rfl⟩ := h.ex
  have hx := h.keys x (List.mem_of_getElem? hi)
  have hy := h.keys y (List.mem_of_getElem? hj)
  exact swap_run f h1 hi hj (by omega) (by omega) fun σ' h' hS => hQ σ' ⟨⟨sv, m, _, h', h2.swap hi hj, rfl⟩, fun z hz => h.keys z ((set_perm hi hj).mem_iff.1 hz)⟩ (hS.mono fun b hb => List.mem_cons_of_mem _ hb)
theorem up_run (f : Free orc) {p k m : Nat} {F : List Nat} {A : List Al} (h : AAt σ p F A) (hn : A.length ≤ n) (hN : A.length ≤ 1048576) (hm : m ≤ A.length) (hk : k < m) (he : Exc lt (fA A) m k) (hc : Hp.Kids lt (fA A) m k)
    (hQ : ∀ σ' A', AAt σ' p F A' → A'.Perm A → (∀ q, m ≤ q → A'[q]? = A[q]?) → Heap lt (fA A') m → Same σ σ' F → Q (.tuple #[], σ')) : W (acall Try.prog gs orc (n + 8) 156 [rowsV p, .int .i64 (k : Int)] σ) Q := by
  rw [W_start (m := 23) (keep := []) Try.func156 rfl (by kernel_rfl) (by kernel_rfl) (by first | rfl | assumption | exact f.h156) (by rfl)]
  simp (maxSteps := 2000000) only [B0, B1, B2, B3, B4, B5, B6, B7, Gd, extV, Nat.reduceLT, Nat.reduceEqDiff, Nat.reduceBEq, Nat.reduceAdd, Nat.reduceSub, Nat.reduceMul, ↓reduceIte, reduceCtorEq, if_true, if_false, ite_true, ite_false, Int.reduceLT, Int.reduceLE, ptr, rs_none (show Try.f156.results = #[] from rfl)]
  refine W_inv (fun k fr σ' => ∃ (t : Tr Value) (A' : List Al), fr = ⟨23, t⟩ ∧ t.get 0 = some (rowsV p) ∧ t.get 1 = some (.int .i64 (k : Int)) ∧ AAt σ' p F A' ∧ A'.Perm A ∧ (∀ q, m ≤ q → A'[q]? = A[q]?) ∧ k < m ∧ Exc lt (fA A') m k ∧ Hp.Kids lt (fA A') m k ∧ Same σ σ' F) k (by omega) ⟨_, A, rfl, rfl, rfl, h, .refl _, fun _ _ => rfl, hk, he, hc, .refl _ _⟩ ?_
  rintro k fr σ1 ⟨t, A1, rfl, t0, t1, h1, hp, htl, hk, he, hc, hS⟩
  have hl := hp.length_eq
  by_cases k0 : k = 0
  · subst k0
    simp (maxSteps := 2000000) only [B0, B1, B2, B3, B4, B5, B6, B7, Gd, extV, Nat.reduceLT, Nat.reduceEqDiff, Nat.reduceBEq, Nat.reduceAdd, Nat.reduceSub, Nat.reduceMul, ↓reduceIte, reduceCtorEq, if_true, if_false, ite_true, ite_false, Int.reduceLT, Int.reduceLE, ptr, t0,  t1, rs_none (show Try.f156.results = #[] from rfl)]
    exact hQ σ1 A1 h1 hp htl (heap_of he hc (fun q => by omega)) hS
  · have w1 : IntKind.i64.wrap ((k : Int) - 1) = ((k - 1 : Nat) : Int) := by rw [wrap64] <;> omega
    have w2 : IntKind.i64.wrap (((k - 1 : Nat) : Int).tdiv 2) = (((k - 1) / 2 : Nat) : Int) := by
      rw [Int.tdiv_eq_ediv_of_nonneg (by omega), wrap64 (by omega) (by omega)]; omega
    have w3 : ((((k - 1) / 2 : Nat) : Int) = (k : Int)) = False := by simp; omega
    obtain ⟨x, hx⟩ : ∃ x, A1[k]? = some x := ⟨A1[k]'(by omega), List.getElem?_eq_getElem _⟩
    obtain ⟨y, hy⟩ : ∃ y, A1[(k - 1) / 2]? = some y := ⟨A1[(k - 1) / 2]'(by omega), List.getElem?_eq_getElem _⟩
    simp (maxSteps := 2000000) only [B0, B1, B2, B3, B4, B5, B6, B7, Gd, extV, Nat.reduceLT, Nat.reduceEqDiff, Nat.reduceBEq, Nat.reduceAdd, Nat.reduceSub, Nat.reduceMul, ↓reduceIte, reduceCtorEq, if_true, if_false, ite_true, ite_false, Int.reduceLT, Int.reduceLE, ptr, t0,  t1,  w1,  w2,  w3,  inv_less,  inv_swap, rs_none (show Try.f156.results = #[] from rfl)]
    refine less' f h1 hx hy fun σ2 h2 hS2 => ?_
    by_cases hlt : lt x y
    · simp (maxSteps := 2000000) only [B0, B1, B2, B3, B4, B5, B6, B7, Gd, extV, Nat.reduceLT, Nat.reduceEqDiff, Nat.reduceBEq, Nat.reduceAdd, Nat.reduceSub, Nat.reduceMul, ↓reduceIte, reduceCtorEq, if_true, if_false, ite_true, ite_false, Int.reduceLT, Int.reduceLE, ptr, t0,  t1,  w1,  w2,  w3,  inv_less,  inv_swap,  hlt, rs_none (show Try.f156.results = #[] from rfl)]
      refine swap' f h2 hy hx fun σ3 h3 hS3 => ?_
      simp (maxSteps := 2000000) only [B0, B1, B2, B3, B4, B5, B6, B7, Gd, extV, Nat.reduceLT, Nat.reduceEqDiff, Nat.reduceBEq, Nat.reduceAdd, Nat.reduceSub, Nat.reduceMul, ↓reduceIte, reduceCtorEq, if_true, if_false, ite_true, ite_false, Int.reduceLT, Int.reduceLE, ptr, t0,  t1,  w1,  w2,  w3,  inv_less,  inv_swap,  hlt,  KInv_normal, rs_none (show Try.f156.results = #[] from rfl)]
      obtain ⟨he', hc'⟩ := up_step ordOk he hc (by omega) (by omega) (by rw [fA_of hx, fA_of hy]; exact hlt)
      rw [← fA_sw hy hx] at he' hc'
      exact ⟨(k - 1) / 2, by omega, _, _, rfl, by simp [get_put, t0], by simp [get_put], h3, (set_perm hy hx).trans hp, fun q hq => by rw [List.getElem?_set_ne (by omega), List.getElem?_set_ne (by omega)]; exact htl q hq, by omega, he', hc', (hS.trans hS2 nofun).trans hS3 (fun b hb => .inl hb)⟩
    · simp (maxSteps := 2000000) only [B0, B1, B2, B3, B4, B5, B6, B7, Gd, extV, Nat.reduceLT, Nat.reduceEqDiff, Nat.reduceBEq, Nat.reduceAdd, Nat.reduceSub, Nat.reduceMul, ↓reduceIte, reduceCtorEq, if_true, if_false, ite_true, ite_false, Int.reduceLT, Int.reduceLE, ptr, t0,  t1,  w1,  w2,  w3,  inv_less,  inv_swap,  hlt, rs_none (show Try.f156.results = #[] from rfl)]
      exact hQ σ2 A1 h2 hp htl (heap_of he hc (fun _ => by rw [fA_of hx, fA_of hy]; exact hlt)) (hS.trans hS2 nofun)
end Go.Proofs.Ytongccpmdndcgaa.Alm
end
/- Alarms: heap.down. -/
section
set_option linter.all false
namespace Go.Proofs.Ytongccpmdndcgaa.Alm
open Go Go.AE Go.Hp
set_option maxRecDepth 100000
variable {gs : List Nat} {orc : Orc} {n : Nat} {σ : AHeap} {Q : Value × AHeap → Prop}

theorem wrap64_b2 : IntKind.i64.wrap (2 * 0) = 0 := by decide
set_option maxHeartbeats 1000000 in
theorem down_run (f : Free orc) {p i0 m : Nat} {F : List Nat} {A : List Al} (h : AAt σ p F A) (hn : A.length ≤ n) (hN : A.length ≤ 1048576) (hm : m ≤ A.length) (hi0 : i0 ≤ m) (he : Exc lt (fA A) m i0)
    (hQ : ∀ σ' A' b, AAt σ' p F A' → A'.Perm A → (∀ q, m ≤ q → A'[q]? = A[q]?) → (b = true → Heap lt (fA A') m) → (b = false → A' = A ∧ Hp.Kids lt (fA A) m i0) → Same σ σ' F → Q (.bool b, σ')) :
    W (acall Try.prog gs orc (n + 8) 154 [rowsV p, .int .i64 (i0 : Int), .int .i64 (m : Int)] σ) Q := by
  rw [W_start (m := 48) (keep := []) Try.func154 rfl (by kernel_rfl) (by kernel_rfl) (by first | rfl | assumption | exact f.h154) (by rfl)]
  simp (maxSteps := 2000000) only [B0, B1, B2, B3, B4, B5, B6, B7, Gd, extV, Nat.reduceLT, Nat.reduceEqDiff, Nat.reduceBEq, Nat.reduceAdd, Nat.reduceSub, Nat.reduceMul, ↓reduceIte, reduceCtorEq, if_true, if_false, ite_true, ite_false, Int.reduceLT, Int.reduceLE, ptr, rs_tmp (show Try.f154.results = #[.tmp 6] from rfl)]
  refine W_inv (fun k fr σ' => ∃ (t : Tr Value) (A' : List Al) (i : Nat), fr = ⟨48, t⟩ ∧ t.get 0 = some (rowsV p) ∧ t.get 1 = some (.int .i64 (i0 : Int)) ∧ t.get 2 = some (.int .i64 (m : Int)) ∧ t.get 7 = some (.int .i64 (i : Int)) ∧ k = m - i ∧ i0 ≤ i ∧ i ≤ m ∧ AAt σ' p F A' ∧ A'.Perm A ∧ (∀ q, m ≤ q → A'[q]? = A[q]?) ∧ Exc lt (fA A') m i ∧ (i = i0 → A' = A) ∧ (i0 < i → Par lt (fA A') i) ∧ Same σ σ' F) (m - i0) (by omega)
    ⟨_, A, i0, rfl, by simp [get_put, get_args], by simp [get_put, get_args], by simp [get_put, get_args], by simp [get_put, get_args], rfl, by omega, hi0, h, .refl _, fun _ _ => rfl, he, fun _ => rfl, fun q => by omega, .refl _ _⟩ ?_
  rintro k fr σ1 ⟨t, A1, i, rfl, t0, t1, t2, t7, rfl, hi, him, h1, hp, htl, he, hsame, hpar, hS⟩
  have hl := hp.length_eq
  have w1 : IntKind.i64.wrap (2 * (i : Int)) = ((2 * i : Nat) : Int) := by rw [wrap64] <;> omega
  have w2 : IntKind.i64.wrap (((2 * i : Nat) : Int) + 1) = ((2 * i + 1 : Nat) : Int) := by rw [wrap64] <;> omega
  have w3 : IntKind.i64.wrap (((2 * i + 1 : Nat) : Int) + 1) = ((2 * i + 2 : Nat) : Int) := by rw [wrap64] <;> omega
  have w4 : (((2 * i + 1 : Nat) : Int) < 0) = False := by simp; omega
  have fin : ∀ σ' A', AAt σ' p F A' → A' = A1 → Same σ1 σ' F → Hp.Kids lt (fA A1) m i → Q (.bool (decide ((i0 : Int) < (i : Int))), σ') := by
    intro σ' A' h' e hS' hk
    subst e
    refine hQ σ' A' _ h' hp htl (fun hb => ?_) (fun hb => ?_) (hS.trans hS' (fun b hb => .inl hb))
    · exact heap_of he hk (hpar (by simpa using hb))
    · have hii : i = i0 := by simp at hb; omega
      have := hsame hii
      exact ⟨this, by rw [← this, ← hii]; exact hk⟩
  by_cases c1 : m ≤ 2 * i + 1
  · have d1 : ((m : Int) ≤ ((2 * i + 1 : Nat) : Int)) = True := by simp; omega
    simp (maxSteps := 2000000) only [B0, B1, B2, B3, B4, B5, B6, B7, Gd, extV, Nat.reduceLT, Nat.reduceEqDiff, Nat.reduceBEq, Nat.reduceAdd, Nat.reduceSub, Nat.reduceMul, ↓reduceIte, reduceCtorEq, if_true, if_false, ite_true, ite_false, Int.reduceLT, Int.reduceLE, ptr, t0,  t1,  t2,  t7,  w1,  w2,  d1, rs_tmp (show Try.f154.results = #[.tmp 6] from rfl)]
    exact fin σ1 A1 h1 rfl (.refl _ _) (fun c h0 hc hq => by omega)
  · have d1 : ((m : Int) ≤ ((2 * i + 1 : Nat) : Int)) = False := by simp; omega
    obtain ⟨z, hz⟩ : ∃ x, A1[i]? = some x := ⟨A1[i]'(by omega), List.getElem?_eq_getElem _⟩
    obtain ⟨x, hx⟩ : ∃ x, A1[2 * i + 1]? = some x := ⟨A1[2 * i + 1]'(by omega), List.getElem?_eq_getElem _⟩
    by_cases c2 : 2 * i + 2 < m
    · have d2 : (((2 * i + 2 : Nat) : Int) < (m : Int)) = True := by simp; omega
      obtain ⟨y, hy⟩ : ∃ x, A1[2 * i + 2]? = some x := ⟨A1[2 * i + 2]'(by omega), List.getElem?_eq_getElem _⟩
      simp (maxSteps := 2000000) only [B0, B1, B2, B3, B4, B5, B6, B7, Gd, extV, Nat.reduceLT, Nat.reduceEqDiff, Nat.reduceBEq, Nat.reduceAdd, Nat.reduceSub, Nat.reduceMul, ↓reduceIte, reduceCtorEq, if_true, if_false, ite_true, ite_false, Int.reduceLT, Int.reduceLE, ptr, t0,  t1,  t2,  t7,  w1,  w2,  w3,  w4,  d1,  d2,  inv_less,  inv_swap, rs_tmp (show Try.f154.results = #[.tmp 6] from rfl)]
      refine less' f h1 hy hx fun σ2 h2 hS2 => ?_
      by_cases l1 : lt y x
      · simp (maxSteps := 2000000) only [B0, B1, B2, B3, B4, B5, B6, B7, Gd, extV, Nat.reduceLT, Nat.reduceEqDiff, Nat.reduceBEq, Nat.reduceAdd, Nat.reduceSub, Nat.reduceMul, ↓reduceIte, reduceCtorEq, if_true, if_false, ite_true, ite_false, Int.reduceLT, Int.reduceLE, ptr, t0,  t1,  t2,  t7,  w1,  w2,  w3,  w4,  d1,  d2,  inv_less,  inv_swap,  l1, rs_tmp (show Try.f154.results = #[.tmp 6] from rfl)]
        have hmin : ∀ c, c = 2 * i + 1 ∨ c = 2 * i + 2 → c < m → ¬ lt (fA A1 c) (fA A1 (2 * i + 2)) := by
          rintro c (rfl | rfl) hc
          · exact by rw [fA_of hx, fA_of hy]; exact ordOk.asy _ _ l1
          · exact lt_irr _
        refine less' f h2 hy hz fun σ3 h3 hS3 => ?_
        by_cases l2 : lt y z
        · simp (maxSteps := 2000000) only [B0, B1, B2, B3, B4, B5, B6, B7, Gd, extV, Nat.reduceLT, Nat.reduceEqDiff, Nat.reduceBEq, Nat.reduceAdd, Nat.reduceSub, Nat.reduceMul, ↓reduceIte, reduceCtorEq, if_true, if_false, ite_true, ite_false, Int.reduceLT, Int.reduceLE, ptr, t0,  t1,  t2,  t7,  w1,  w2,  w3,  w4,  d1,  d2,  inv_less,  inv_swap,  l1,  l2, rs_tmp (show Try.f154.results = #[.tmp 6] from rfl)]
          refine swap' f h3 hz hy fun σ4 h4 hS4 => ?_
          simp (maxSteps := 2000000) only [B0, B1, B2, B3, B4, B5, B6, B7, Gd, extV, Nat.reduceLT, Nat.reduceEqDiff, Nat.reduceBEq, Nat.reduceAdd, Nat.reduceSub, Nat.reduceMul, ↓reduceIte, reduceCtorEq, if_true, if_false, ite_true, ite_false, Int.reduceLT, Int.reduceLE, ptr, KInv_normal,  t0,  t1,  t2,  t7,  w1,  w2,  w3,  w4,  d1,  d2,  inv_less,  inv_swap,  l1,  l2, rs_tmp (show Try.f154.results = #[.tmp 6] from rfl)]
          obtain ⟨he', hp'⟩ := down_step ordOk he (j := 2 * i + 2) (by omega) (by omega) hmin (by rw [fA_of hy, fA_of hz]; exact l2)
          rw [← fA_sw hz hy] at he' hp'
          exact ⟨m - (2 * i + 2), by omega, _, _, 2 * i + 2, rfl, by simp [get_put, t0], by simp [get_put, t1], by simp [get_put, t2], by simp [get_put], rfl, by omega, by omega, h4, (set_perm hz hy).trans hp, fun q hq => by rw [List.getElem?_set_ne (by omega), List.getElem?_set_ne (by omega)]; exact htl q hq, he', fun q => by omega, fun _ => hp', ((hS.trans hS2 nofun).trans hS3 nofun).trans hS4 (fun b hb => .inl hb)⟩
        · simp (maxSteps := 2000000) only [B0, B1, B2, B3, B4, B5, B6, B7, Gd, extV, Nat.reduceLT, Nat.reduceEqDiff, Nat.reduceBEq, Nat.reduceAdd, Nat.reduceSub, Nat.reduceMul, ↓reduceIte, reduceCtorEq, if_true, if_false, ite_true, ite_false, Int.reduceLT, Int.reduceLE, ptr, t0,  t1,  t2,  t7,  w1,  w2,  w3,  w4,  d1,  d2,  inv_less,  inv_swap,  l1,  l2, rs_tmp (show Try.f154.results = #[.tmp 6] from rfl)]
          exact fin σ3 A1 h3 rfl ((Same.trans hS2 hS3 nofun).mono nofun) (fun c h0 hc hq => ordOk.tr _ _ _ (by rw [fA_of hz, fA_of hy]; exact l2) (hmin c (by omega) hc))
      · simp (maxSteps := 2000000) only [B0, B1, B2, B3, B4, B5, B6, B7, Gd, extV, Nat.reduceLT, Nat.reduceEqDiff, Nat.reduceBEq, Nat.reduceAdd, Nat.reduceSub, Nat.reduceMul, ↓reduceIte, reduceCtorEq, if_true, if_false, ite_true, ite_false, Int.reduceLT, Int.reduceLE, ptr, t0,  t1,  t2,  t7,  w1,  w2,  w3,  w4,  d1,  d2,  inv_less,  inv_swap,  l1, rs_tmp (show Try.f154.results = #[.tmp 6] from rfl)]
        have hmin : ∀ c, c = 2 * i + 1 ∨ c = 2 * i + 2 → c < m → ¬ lt (fA A1 c) (fA A1 (2 * i + 1)) := by
          rintro c (rfl | rfl) hc
          · exact lt_irr _
          · exact by rw [fA_of hy, fA_of hx]; exact l1
        refine less' f h2 hx hz fun σ3 h3 hS3 => ?_
        by_cases l2 : lt x z
        · simp (maxSteps := 2000000) only [B0, B1, B2, B3, B4, B5, B6, B7, Gd, extV, Nat.reduceLT, Nat.reduceEqDiff, Nat.reduceBEq, Nat.reduceAdd, Nat.reduceSub, Nat.reduceMul, ↓reduceIte, reduceCtorEq, if_true, if_false, ite_true, ite_false, Int.reduceLT, Int.reduceLE, ptr, t0,  t1,  t2,  t7,  w1,  w2,  w3,  w4,  d1,  d2,  inv_less,  inv_swap,  l1,  l2, rs_tmp (show Try.f154.results = #[.tmp 6] from rfl)]
          refine swap' f h3 hz hx fun σ4 h4 hS4 => ?_
          simp (maxSteps := 2000000) only [B0, B1, B2, B3, B4, B5, B6, B7, Gd, extV, Nat.reduceLT, Nat.reduceEqDiff, Nat.reduceBEq, Nat.reduceAdd, Nat.reduceSub, Nat.reduceMul, ↓reduceIte, reduceCtorEq, if_true, if_false, ite_true, ite_false, Int.reduceLT, Int.reduceLE, ptr, KInv_normal,  t0,  t1,  t2,  t7,  w1,  w2,  w3,  w4,  d1,  d2,  inv_less,  inv_swap,  l1,  l2, rs_tmp (show Try.f154.results = #[.tmp 6] from rfl)]
          obtain ⟨he', hp'⟩ := down_step ordOk he (j := 2 * i + 1) (by omega) (by omega) hmin (by rw [fA_of hx, fA_of hz]; exact l2)
          rw [← fA_sw hz hx] at he' hp'
          exact ⟨m - (2 * i + 1), by omega, _, _, 2 * i + 1, rfl, by simp [get_put, t0], by simp [get_put, t1], by simp [get_put, t2], by simp [get_put], rfl, by omega, by omega, h4, (set_perm hz hx).trans hp, fun q hq => by rw [List.getElem?_set_ne (by omega), List.getElem?_set_ne (by omega)]; exact htl q hq, he', fun q => by omega, fun _ => hp', ((hS.trans hS2 nofun).trans hS3 nofun).trans hS4 (fun b hb => .inl hb)⟩
        · simp (maxSteps := 2000000) only [B0, B1, B2, B3, B4, B5, B6, B7, Gd, extV, Nat.reduceLT, Nat.reduceEqDiff, Nat.reduceBEq, Nat.reduceAdd, Nat.reduceSub, Nat.reduceMul, ↓reduceIte, reduceCtorEq, if_true, if_false, ite_true, ite_false, Int.reduceLT, Int.reduceLE, ptr, t0,  t1,  t2,  t7,  w1,  w2,  w3,  w4,  d1,  d2,  inv_less,  inv_swap,  l1,  l2, rs_tmp (show Try.f154.results = #[.tmp 6] from rfl)]
          exact fin σ3 A1 h3 rfl ((Same.trans hS2 hS3 nofun).mono nofun) (fun c h0 hc hq => ordOk.tr _ _ _ (by rw [fA_of hz, fA_of hx]; exact l2) (hmin c (by omega) hc))
    · have d2 : (((2 * i + 2 : Nat) : Int) < (m : Int)) = False := by simp; omega
      by_cases l1 : True
      · simp (maxSteps := 2000000) only [B0, B1, B2, B3, B4, B5, B6, B7, Gd, extV, Nat.reduceLT, Nat.reduceEqDiff, Nat.reduceBEq, Nat.reduceAdd, Nat.reduceSub, Nat.reduceMul, ↓reduceIte, reduceCtorEq, if_true, if_false, ite_true, ite_false, Int.reduceLT, Int.reduceLE, ptr, t0,  t1,  t2,  t7,  w1,  w2,  w3,  w4,  d1,  d2,  inv_less,  inv_swap, rs_tmp (show Try.f154.results = #[.tmp 6] from rfl)]
        have hmin : ∀ c, c = 2 * i + 1 ∨ c = 2 * i + 2 → c < m → ¬ lt (fA A1 c) (fA A1 (2 * i + 1)) := by
          rintro c (rfl | rfl) hc
          · exact lt_irr _
          · omega
        refine less' f h1 hx hz fun σ3 h3 hS3 => ?_
        by_cases l2 : lt x z
        · simp (maxSteps := 2000000) only [B0, B1, B2, B3, B4, B5, B6, B7, Gd, extV, Nat.reduceLT, Nat.reduceEqDiff, Nat.reduceBEq, Nat.reduceAdd, Nat.reduceSub, Nat.reduceMul, ↓reduceIte, reduceCtorEq, if_true, if_false, ite_true, ite_false, Int.reduceLT, Int.reduceLE, ptr, t0,  t1,  t2,  t7,  w1,  w2,  w3,  w4,  d1,  d2,  inv_less,  inv_swap,  l2, rs_tmp (show Try.f154.results = #[.tmp 6] from rfl)]
          refine swap' f h3 hz hx fun σ4 h4 hS4 => ?_
          simp (maxSteps := 2000000) only [B0, B1, B2, B3, B4, B5, B6, B7, Gd, extV, Nat.reduceLT, Nat.reduceEqDiff, Nat.reduceBEq, Nat.reduceAdd, Nat.reduceSub, Nat.reduceMul, ↓reduceIte, reduceCtorEq, if_true, if_false, ite_true, ite_false, Int.reduceLT, Int.reduceLE, ptr, KInv_normal,  t0,  t1,  t2,  t7,  w1,  w2,  w3,  w4,  d1,  d2,  inv_less,  inv_swap,  l2, rs_tmp (show Try.f154.results = #[.tmp 6] from rfl)]
          obtain ⟨he', hp'⟩ := down_step ordOk he (j := 2 * i + 1) (by omega) (by omega) hmin (by rw [fA_of hx, fA_of hz]; exact l2)
          rw [← fA_sw hz hx] at he' hp'
          exact ⟨m - (2 * i + 1), by omega, _, _, 2 * i + 1, rfl, by simp [get_put, t0], by simp [get_put, t1], by simp [get_put, t2], by simp [get_put], rfl, by omega, by omega, h4, (set_perm hz hx).trans hp, fun q hq => by rw [List.getElem?_set_ne (by omega), List.getElem?_set_ne (by omega)]; exact htl q hq, he', fun q => by omega, fun _ => hp', ((hS.trans (Same.refl σ1 []) nofun).trans hS3 nofun).trans hS4 (fun b hb => .inl hb)⟩
        · simp (maxSteps := 2000000) only [B0, B1, B2, B3, B4, B5, B6, B7, Gd, extV, Nat.reduceLT, Nat.reduceEqDiff, Nat.reduceBEq, Nat.reduceAdd, Nat.reduceSub, Nat.reduceMul, ↓reduceIte, reduceCtorEq, if_true, if_false, ite_true, ite_false, Int.reduceLT, Int.reduceLE, ptr, t0,  t1,  t2,  t7,  w1,  w2,  w3,  w4,  d1,  d2,  inv_less,  inv_swap,  l2, rs_tmp (show Try.f154.results = #[.tmp 6] from rfl)]
          exact fin σ3 A1 h3 rfl ((Same.trans (Same.refl σ1 []) hS3 nofun).mono nofun) (fun c h0 hc hq => ordOk.tr _ _ _ (by rw [fA_of hz, fA_of hx]; exact l2) (hmin c (by omega) hc))
      · exact absurd trivial l1
end Go.Proofs.Ytongccpmdndcgaa.Alm
end
/- Alarms: container/heap's Push, Pop, Remove, Fix over them. -/
section
set_option linter.all false
namespace Go.Proofs.Ytongccpmdndcgaa.Alm
open Go Go.AE Go.Hp
set_option maxRecDepth 100000
variable {gs : List Nat} {orc : Orc} {n : Nat} {σ : AHeap} {Q : Value × AHeap → Prop}

theorem Plc.push {A : List Al} {M : Prs} (h : Plc A M) {x : Al} (hx : ∀ y ∈ A, y.1 ≠ x.1) : Plc (A ++ [x]) (mput M x.1 (.int .i64 (A.length : Int))) := by
  have no : mget M x.1 = none := by
    cases q : mget M x.1 with
    | none => rfl
    | some v => obtain ⟨y, hy, e⟩ := h.only x.1 (by rw [q]; rfl); exact absurd e (hx y hy)
  refine ⟨fun i z hz => ?_, ?_, fun s hs => ?_⟩
  · rw [mget_mput]
    rw [List.getElem?_append] at hz
    split at hz
    · have := hx z (List.mem_of_getElem? hz)
      rw [if_neg this]
      exact h.at_ i z hz
    · rename_i hi
      have h0 : i - A.length = 0 := by have := (List.getElem?_eq_some_iff.1 hz).1; simp at this; omega
      have : i = A.length := by omega
      subst this
      simp at hz
      subst hz
      rw [if_pos rfl]
  · rw [len_mput, no]; simp [h.len]
  · rw [mget_mput] at hs
    split at hs
    · rename_i e; exact ⟨x, by simp, e.symm⟩
    · obtain ⟨y, hy, e⟩ := h.only s hs; exact ⟨y, by simp [hy], e⟩
theorem Plc.pop {A : List Al} {M : Prs} (hn : (M.map (·.1)).Nodup) {x : Al} (h : Plc (A ++ [x]) M) : Plc A (mdel M x.1) := by
  have hl : (A ++ [x])[A.length]? = some x := by simp
  refine ⟨fun i z hz => ?_, ?_, fun s hs => ?_⟩
  · have li : i < A.length := (List.getElem?_eq_some_iff.1 hz).1
    have hz' : (A ++ [x])[i]? = some z := by rw [List.getElem?_append_left li]; exact hz
    rw [mget_mdel, if_neg (fun e => by have := h.inj hz' hl e; omega)]
    exact h.at_ i z hz'
  · have := len_mdel hn (s := x.1) (mget_some.1 (by rw [h.at_ _ _ hl]; rfl))
    have h2 := h.len
    simp at h2
    omega
  · rw [mget_mdel] at hs
    split at hs
    · cases hs
    · rename_i q
      obtain ⟨y, hy, e⟩ := h.only s hs
      rcases List.mem_append.1 hy with hy | hy
      · exact ⟨y, hy, e⟩
      · simp at hy; subst hy; exact absurd e.symm q
theorem push' (f : Free orc) {p : Nat} {F : List Nat} {A : List Al} {x : Al} (h : AAt σ p F A) (hxs : x.1.size ≤ 64) (hx : ∀ y ∈ A, y.1 ≠ x.1) (hl : A.length + 1 ≤ 1048576)
    (hQ : ∀ σ' F', AAt σ' p F' (A ++ [x]) → (∀ b ∈ F', b ∈ F ∨ σ.next ≤ b) → Same σ σ' F → Q (.tuple #[], σ')) : W (acall Try.prog gs orc (n + 1) 236 [.agg #[pt p], .iface 32 (alV x)] σ) Q := by
  obtain ⟨sv, m, M, h1, h2, rfl⟩ := h.ex
  refine push_run f h1 (by omega) hl fun σ' sv' h' hb hS => hQ σ' _ ⟨⟨sv', m, _, h', h2.push hx, rfl⟩, fun z hz => ?_⟩ (fun b hb' => ?_) hS
  · rcases List.mem_append.1 hz with hz | hz
    · exact h.keys z hz
    · simp at hz; subst hz; exact hxs
  · simp at hb' ⊢
    rcases hb' with rfl | rfl | q
    · exact .inl (.inl rfl)
    · exact .inl (.inr (.inl rfl))
    · rcases hb b q with q | q
      · exact .inl (.inr (.inr q))
      · exact .inr q
theorem pop' (f : Free orc) {p : Nat} {F : List Nat} {A : List Al} {x : Al} (h : AAt σ p F (A ++ [x])) (hl : A.length + 1 ≤ 1048576)
    (hQ : ∀ σ', AAt σ' p F A → Same σ σ' F → Q (.iface 32 (alV x), σ')) : W (acall Try.prog gs orc (n + 1) 235 [.agg #[pt p]] σ) Q := by
  obtain ⟨sv, m, M, h1, h2, rfl⟩ := h.ex
  refine pop_run f h1 hl fun σ' sv' h' hb hS => hQ σ' ⟨⟨sv', m, _, h', h2.pop h1.map.nodup, by rw [hb]⟩, fun z hz => h.keys z (by simp [hz])⟩ (hS.mono fun b hb => ?_)
  simp at hb ⊢
  omega
theorem len' (f : Free orc) {p : Nat} {F : List Nat} {A : List Al} (h : AAt σ p F A) : W (acall Try.prog gs orc (n + 2) 20 [pt p] σ) Q = Q (.int .i64 (A.length : Int), σ) := by
  obtain ⟨sv, m, M, h1, h2, rfl⟩ := h.ex
  exact len_run f h1
theorem none' (f : Free orc) {p : Nat} {F : List Nat} {A : List Al} (h : AAt σ p F A) : W (acall Try.prog gs orc (n + 1) 99 [pt p] σ) Q = Q (.bool false, σ) := by
  obtain ⟨sv, m, M, h1, h2, rfl⟩ := h.ex
  exact none_run f h1
structure Free2 (orc : Orc) : Prop extends Free orc where
  h103 : orc 103 = none
  h105 : orc 105 = none
  h106 : orc 106 = none
  h107 : orc 107 = none
theorem fA_append {A : List Al} {x : Al} {i : Nat} (hi : i < A.length) : fA (A ++ [x]) i = fA A i := by unfold fA; rw [List.getElem?_append_left hi]
theorem hpush_run (f : Free2 orc) {p : Nat} {F : List Nat} {A : List Al} {x : Al} (h : AAt σ p F A) (hh : Heap lt (fA A) A.length) (hn : A.length + 1 ≤ n) (hN : A.length + 1 ≤ 1048576) (hxs : x.1.size ≤ 64) (hx : ∀ y ∈ A, y.1 ≠ x.1)
    (hQ : ∀ σ' F' A', AAt σ' p F' A' → A'.Perm (A ++ [x]) → Heap lt (fA A') A'.length → (∀ b ∈ F', b ∈ F ∨ σ.next ≤ b) → Same σ σ' F → Q (.tuple #[], σ')) : W (acall Try.prog gs orc (n + 9) 105 [rowsV p, .iface 32 (alV x)] σ) Q := by
  rw [W_start (m := 12) (keep := []) Try.func105 rfl (by kernel_rfl) (by kernel_rfl) (by first | rfl | assumption | exact f.h105) (by rfl)]
  simp (maxSteps := 2000000) only [B0, B1, B2, B3, B4, B5, B6, B7, Gd, extV, Nat.reduceLT, Nat.reduceEqDiff, Nat.reduceBEq, Nat.reduceAdd, Nat.reduceSub, Nat.reduceMul, ↓reduceIte, reduceCtorEq, if_true, if_false, ite_true, ite_false, Int.reduceLT, Int.reduceLE, ptr, callV_func Try.enters_156, inv_push, rs_none (show Try.f105.results = #[] from rfl)]
  refine push' f.toFree h hxs hx hN fun σ1 F1 h1 hF1 hS1 => ?_
  have w1 : IntKind.i64.wrap ((((A ++ [x]).length : Nat) : Int) - 1) = (A.length : Int) := by rw [wrap64] <;> simp <;> omega
  simp (maxSteps := 2000000) only [B0, B1, B2, B3, B4, B5, B6, B7, Gd, extV, Nat.reduceLT, Nat.reduceEqDiff, Nat.reduceBEq, Nat.reduceAdd, Nat.reduceSub, Nat.reduceMul, ↓reduceIte, reduceCtorEq, if_true, if_false, ite_true, ite_false, Int.reduceLT, Int.reduceLE, ptr, callV_func Try.enters_156, inv_push,  inv_len,  len' f.toFree h1,  w1,  callV_func Try.enters_156, rs_none (show Try.f105.results = #[] from rfl)]
  refine up_run f.toFree h1 (m := A.length + 1) (by simp; omega) (by simp; omega) (by simp) (by omega) ⟨fun j j0 jm e1 e2 => ?_, fun k0 c c0 cm ec => by omega⟩ (fun c c0 cm ec => by omega) fun σ2 A2 h2 hp2 _ hh2 hS2 => ?_
  · rw [fA_append (by omega), fA_append (by omega)]; exact hh j j0 (by omega)
  · simp (maxSteps := 2000000) only [B0, B1, B2, B3, B4, B5, B6, B7, Gd, extV, Nat.reduceLT, Nat.reduceEqDiff, Nat.reduceBEq, Nat.reduceAdd, Nat.reduceSub, Nat.reduceMul, ↓reduceIte, reduceCtorEq, if_true, if_false, ite_true, ite_false, Int.reduceLT, Int.reduceLE, ptr, callV_func Try.enters_156, rs_none (show Try.f105.results = #[] from rfl)]
    refine hQ σ2 F1 A2 h2 hp2 (by rw [hp2.length_eq]; simpa using hh2) hF1 ((hS1.trans hS2 hF1))
end Go.Proofs.Ytongccpmdndcgaa.Alm
end
/- Alarms: container/heap's Pop, Remove, Fix over them. -/
section
set_option linter.all false
namespace Go.Proofs.Ytongccpmdndcgaa.Alm
open Go Go.AE Go.Hp
set_option maxRecDepth 100000
variable {gs : List Nat} {orc : Orc} {n : Nat} {σ : AHeap} {Q : Value × AHeap → Prop}

theorem take_last {α : Type} {L : List α} {k : Nat} {x : α} (hl : L.length = k + 1) (h : L[k]? = some x) : L = L.take k ++ [x] := by
  have := List.take_append_drop k L
  have hd : L.drop k = [x] := by
    rw [List.drop_eq_getElem_cons (by omega), List.drop_of_length_le (by omega)]
    have := (List.getElem?_eq_some_iff.1 h).2
    rw [this]
  rw [← hd, this]
theorem fA_take {A : List Al} {k i : Nat} (h : i < k) : fA (A.take k) i = fA A i := by unfold fA; rw [List.getElem?_take, if_pos h]
theorem heap_congr {f g : Nat → Al} {k : Nat} (h : Heap lt f k) (e : ∀ i, i < k → g i = f i) : Heap lt g k := fun j j0 jk => by rw [e j jk, e _ (by omega)]; exact h j j0 jk
/-- What is told behind the last place's swap and repair. -/
theorem tail_pop {A2 : List Al} {k : Nat} {x : Al} (hl : A2.length = k + 1) (hx : A2[k]? = some x) (hh : Heap lt (fA A2) k) : A2 = A2.take k ++ [x] ∧ Heap lt (fA (A2.take k)) (A2.take k).length := by
  refine ⟨take_last hl hx, ?_⟩
  rw [List.length_take, Nat.min_eq_left (by omega)]
  exact heap_congr hh fun i hi => fA_take hi
theorem hpop_run (f : Free2 orc) {p k : Nat} {F : List Nat} {A : List Al} {x : Al} (h : AAt σ p F A) (hl : A.length = k + 1) (hx : A[0]? = some x) (hh : Heap lt (fA A) A.length) (hn : A.length ≤ n) (hN : A.length ≤ 1048576)
    (hQ : ∀ σ' A', AAt σ' p F A' → (x :: A').Perm A → Heap lt (fA A') A'.length → Same σ σ' F → Q (.iface 32 (alV x), σ')) : W (acall Try.prog gs orc (n + 9) 103 [rowsV p] σ) Q := by
  obtain ⟨y, hy⟩ : ∃ y, A[k]? = some y := ⟨A[k]'(by omega), List.getElem?_eq_getElem _⟩
  have w1 : IntKind.i64.wrap ((A.length : Int) - 1) = (k : Int) := by rw [wrap64] <;> omega
  rw [W_start (m := 15) (keep := []) Try.func103 rfl (by kernel_rfl) (by kernel_rfl) (by first | rfl | assumption | exact f.h103) (by rfl)]
  simp (maxSteps := 2000000) only [B0, B1, B2, B3, B4, B5, B6, B7, Gd, extV, Nat.reduceLT, Nat.reduceEqDiff, Nat.reduceBEq, Nat.reduceAdd, Nat.reduceSub, Nat.reduceMul, ↓reduceIte, reduceCtorEq, if_true, if_false, ite_true, ite_false, Int.reduceLT, Int.reduceLE, ptr, callV_func Try.enters_154, inv_len,  len' f.toFree h,  w1,  inv_swap, rs_tmp (show Try.f103.results = #[.tmp 2] from rfl)]
  refine swap' f.toFree h (i := 0) hx hy fun σ1 h1 hS1 => ?_
  have hl1 : ((A.set 0 y).set k x).length = k + 1 := by simp [hl]
  have he : Exc lt (fA ((A.set 0 y).set k x)) k 0 := exc_of ordOk hh (by omega) (by omega) fun i hi i0 => by rw [fA_sw hx hy]; unfold sw; rw [if_neg i0, if_neg (by omega)]
  simp (maxSteps := 2000000) only [B0, B1, B2, B3, B4, B5, B6, B7, Gd, extV, Nat.reduceLT, Nat.reduceEqDiff, Nat.reduceBEq, Nat.reduceAdd, Nat.reduceSub, Nat.reduceMul, ↓reduceIte, reduceCtorEq, if_true, if_false, ite_true, ite_false, Int.reduceLT, Int.reduceLE, ptr, callV_func Try.enters_154, callV_func Try.enters_154, rs_tmp (show Try.f103.results = #[.tmp 2] from rfl)]
  refine down_run f.toFree h1 (i0 := 0) (m := k) (by omega) (by omega) (by omega) (by omega) he fun σ2 A2 b h2 hp2 ht2 hb1 hb2 hS2 => ?_
  have hl2 : A2.length = k + 1 := by rw [hp2.length_eq, hl1]
  have hx2 : A2[k]? = some x := by rw [ht2 k (Nat.le_refl _), List.getElem?_set_self (by simp; omega)]
  have hh2 : Heap lt (fA A2) k := by
    cases b with
    | true => exact hb1 rfl
    | false =>
      obtain ⟨e, hk⟩ := hb2 rfl
      subst e
      exact heap_of he hk (fun q => by omega)
  obtain ⟨e2, hh3⟩ := tail_pop hl2 hx2 hh2
  have h2' := h2
  rw [e2] at h2'
  simp (maxSteps := 2000000) only [B0, B1, B2, B3, B4, B5, B6, B7, Gd, extV, Nat.reduceLT, Nat.reduceEqDiff, Nat.reduceBEq, Nat.reduceAdd, Nat.reduceSub, Nat.reduceMul, ↓reduceIte, reduceCtorEq, if_true, if_false, ite_true, ite_false, Int.reduceLT, Int.reduceLE, ptr, callV_func Try.enters_154, inv_pop, rs_tmp (show Try.f103.results = #[.tmp 2] from rfl)]
  refine pop' f.toFree h2' (by simp; omega) fun σ3 h3 hS3 => ?_
  simp (maxSteps := 2000000) only [B0, B1, B2, B3, B4, B5, B6, B7, Gd, extV, Nat.reduceLT, Nat.reduceEqDiff, Nat.reduceBEq, Nat.reduceAdd, Nat.reduceSub, Nat.reduceMul, ↓reduceIte, reduceCtorEq, if_true, if_false, ite_true, ite_false, Int.reduceLT, Int.reduceLE, ptr, callV_func Try.enters_154, rs_tmp (show Try.f103.results = #[.tmp 2] from rfl)]
  refine hQ σ3 _ h3 ?_ hh3 ((hS1.trans hS2 fun b hb => .inl hb).trans hS3 fun b hb => .inl hb)
  have : (A2.take k ++ [x]).Perm A := by rw [← e2]; exact hp2.trans (set_perm hx hy)
  exact (List.perm_append_singleton x _).symm.trans this
theorem hremove_run (f : Free2 orc) {p k i : Nat} {F : List Nat} {A : List Al} {x : Al} (h : AAt σ p F A) (hl : A.length = k + 1) (hx : A[i]? = some x) (hh : Heap lt (fA A) A.length) (hn : A.length ≤ n) (hN : A.length ≤ 1048576)
    (hQ : ∀ σ' A', AAt σ' p F A' → (x :: A').Perm A → Heap lt (fA A') A'.length → Same σ σ' F → Q (.iface 32 (alV x), σ')) : W (acall Try.prog gs orc (n + 9) 107 [rowsV p, .int .i64 (i : Int)] σ) Q := by
  have li : i < A.length := (List.getElem?_eq_some_iff.1 hx).1
  have w1 : IntKind.i64.wrap ((A.length : Int) - 1) = (k : Int) := by rw [wrap64] <;> omega
  have last : ∀ σ2 A2, AAt σ2 p F A2 → A2.Perm A → A2[k]? = some x → Heap lt (fA A2) k → Same σ σ2 F → ∀ Q', (∀ σ', Q (.iface 32 (alV x), σ') → Q' (.iface 32 (alV x), σ')) → W (acall Try.prog gs orc (n + 8) 235 [.agg #[pt p]] σ2) Q' := by
    intro σ2 A2 h2 hp2 hx2 hh2 hS2 Q' hQ'
    have hl2 : A2.length = k + 1 := by rw [hp2.length_eq, hl]
    obtain ⟨e2, hh3⟩ := tail_pop hl2 hx2 hh2
    have h2' := h2
    rw [e2] at h2'
    refine pop' f.toFree h2' (by simp; omega) fun σ3 h3 hS3 => hQ' _ (hQ σ3 _ h3 ?_ hh3 (hS2.trans hS3 fun b hb => .inl hb))
    have : (A2.take k ++ [x]).Perm A := by rw [← e2]; exact hp2
    exact (List.perm_append_singleton x _).symm.trans this
  rw [W_start (m := 26) (keep := []) Try.func107 rfl (by kernel_rfl) (by kernel_rfl) (by first | rfl | assumption | exact f.h107) (by rfl)]
  by_cases ki : k = i
  · subst ki
    simp (maxSteps := 2000000) only [B0, B1, B2, B3, B4, B5, B6, B7, Gd, extV, Nat.reduceLT, Nat.reduceEqDiff, Nat.reduceBEq, Nat.reduceAdd, Nat.reduceSub, Nat.reduceMul, ↓reduceIte, reduceCtorEq, if_true, if_false, ite_true, ite_false, Int.reduceLT, Int.reduceLE, ptr, callV_func Try.enters_154, callV_func Try.enters_156, inv_len,  len' f.toFree h,  w1,  inv_pop, rs_tmp (show Try.f107.results = #[.tmp 4] from rfl)]
    refine last σ A h (.refl _) hx (fun j j0 jk => hh j j0 (by omega)) (.refl _ _) _ fun σ' hq => ?_
    simp (maxSteps := 2000000) only [B0, B1, B2, B3, B4, B5, B6, B7, Gd, extV, Nat.reduceLT, Nat.reduceEqDiff, Nat.reduceBEq, Nat.reduceAdd, Nat.reduceSub, Nat.reduceMul, ↓reduceIte, reduceCtorEq, if_true, if_false, ite_true, ite_false, Int.reduceLT, Int.reduceLE, ptr, callV_func Try.enters_154, callV_func Try.enters_156, rs_tmp (show Try.f107.results = #[.tmp 4] from rfl)]
    exact hq
  · obtain ⟨y, hy⟩ : ∃ y, A[k]? = some y := ⟨A[k]'(by omega), List.getElem?_eq_getElem _⟩
    have d1 : ((k : Int) = (i : Int)) = False := by simp; omega
    simp (maxSteps := 2000000) only [B0, B1, B2, B3, B4, B5, B6, B7, Gd, extV, Nat.reduceLT, Nat.reduceEqDiff, Nat.reduceBEq, Nat.reduceAdd, Nat.reduceSub, Nat.reduceMul, ↓reduceIte, reduceCtorEq, if_true, if_false, ite_true, ite_false, Int.reduceLT, Int.reduceLE, ptr, callV_func Try.enters_154, callV_func Try.enters_156, inv_len,  len' f.toFree h,  w1,  inv_swap,  d1, rs_tmp (show Try.f107.results = #[.tmp 4] from rfl)]
    refine swap' f.toFree h hx hy fun σ1 h1 hS1 => ?_
    have hl1 : ((A.set i y).set k x).length = k + 1 := by simp [hl]
    have he : Exc lt (fA ((A.set i y).set k x)) k i := exc_of ordOk hh (by omega) li fun j hj ji => by rw [fA_sw hx hy]; unfold sw; rw [if_neg ji, if_neg (by omega)]
    simp (maxSteps := 2000000) only [B0, B1, B2, B3, B4, B5, B6, B7, Gd, extV, Nat.reduceLT, Nat.reduceEqDiff, Nat.reduceBEq, Nat.reduceAdd, Nat.reduceSub, Nat.reduceMul, ↓reduceIte, reduceCtorEq, if_true, if_false, ite_true, ite_false, Int.reduceLT, Int.reduceLE, ptr, callV_func Try.enters_154, callV_func Try.enters_156, callV_func Try.enters_154, rs_tmp (show Try.f107.results = #[.tmp 4] from rfl)]
    refine down_run f.toFree h1 (i0 := i) (m := k) (by omega) (by omega) (by omega) (by omega) he fun σ2 A2 b h2 hp2 ht2 hb1 hb2 hS2 => ?_
    have hx2 : A2[k]? = some x := by rw [ht2 k (Nat.le_refl _), List.getElem?_set_self (by simp; omega)]
    have hp3 : A2.Perm A := hp2.trans (set_perm hx hy)
    cases b with
    | true =>
      simp (maxSteps := 2000000) only [B0, B1, B2, B3, B4, B5, B6, B7, Gd, extV, Nat.reduceLT, Nat.reduceEqDiff, Nat.reduceBEq, Nat.reduceAdd, Nat.reduceSub, Nat.reduceMul, ↓reduceIte, reduceCtorEq, if_true, if_false, ite_true, ite_false, Int.reduceLT, Int.reduceLE, ptr, callV_func Try.enters_154, callV_func Try.enters_156, inv_pop, rs_tmp (show Try.f107.results = #[.tmp 4] from rfl)]
      refine last σ2 A2 h2 hp3 hx2 (hb1 rfl) (hS1.trans hS2 fun b hb => .inl hb) _ fun σ' hq => ?_
      simp (maxSteps := 2000000) only [B0, B1, B2, B3, B4, B5, B6, B7, Gd, extV, Nat.reduceLT, Nat.reduceEqDiff, Nat.reduceBEq, Nat.reduceAdd, Nat.reduceSub, Nat.reduceMul, ↓reduceIte, reduceCtorEq, if_true, if_false, ite_true, ite_false, Int.reduceLT, Int.reduceLE, ptr, callV_func Try.enters_154, callV_func Try.enters_156, rs_tmp (show Try.f107.results = #[.tmp 4] from rfl)]
      exact hq
    | false =>
      obtain ⟨e, hk⟩ := hb2 rfl
      subst e
      simp (maxSteps := 2000000) only [B0, B1, B2, B3, B4, B5, B6, B7, Gd, extV, Nat.reduceLT, Nat.reduceEqDiff, Nat.reduceBEq, Nat.reduceAdd, Nat.reduceSub, Nat.reduceMul, ↓reduceIte, reduceCtorEq, if_true, if_false, ite_true, ite_false, Int.reduceLT, Int.reduceLE, ptr, callV_func Try.enters_154, callV_func Try.enters_156, callV_func Try.enters_156, rs_tmp (show Try.f107.results = #[.tmp 4] from rfl)]
      refine up_run f.toFree h2 (m := k) (by omega) (by omega) (by omega) (by omega) he hk fun σ3 A3 h3 hp4 ht3 hh3 hS3 => ?_
      simp (maxSteps := 2000000) only [B0, B1, B2, B3, B4, B5, B6, B7, Gd, extV, Nat.reduceLT, Nat.reduceEqDiff, Nat.reduceBEq, Nat.reduceAdd, Nat.reduceSub, Nat.reduceMul, ↓reduceIte, reduceCtorEq, if_true, if_false, ite_true, ite_false, Int.reduceLT, Int.reduceLE, ptr, callV_func Try.enters_154, callV_func Try.enters_156, inv_pop, rs_tmp (show Try.f107.results = #[.tmp 4] from rfl)]
      refine last σ3 A3 h3 (hp4.trans hp3) (by rw [ht3 k (Nat.le_refl _)]; exact hx2) hh3 ((hS1.trans hS2 fun b hb => .inl hb).trans hS3 fun b hb => .inl hb) _ fun σ' hq => ?_
      simp (maxSteps := 2000000) only [B0, B1, B2, B3, B4, B5, B6, B7, Gd, extV, Nat.reduceLT, Nat.reduceEqDiff, Nat.reduceBEq, Nat.reduceAdd, Nat.reduceSub, Nat.reduceMul, ↓reduceIte, reduceCtorEq, if_true, if_false, ite_true, ite_false, Int.reduceLT, Int.reduceLE, ptr, callV_func Try.enters_154, callV_func Try.enters_156, rs_tmp (show Try.f107.results = #[.tmp 4] from rfl)]
      exact hq
theorem hfix_run (f : Free2 orc) {p i : Nat} {F : List Nat} {A : List Al} (h : AAt σ p F A) (hi : i < A.length) (he : Exc lt (fA A) A.length i) (hn : A.length ≤ n) (hN : A.length ≤ 1048576)
    (hQ : ∀ σ' A', AAt σ' p F A' → A'.Perm A → Heap lt (fA A') A'.length → Same σ σ' F → Q (.tuple #[], σ')) : W (acall Try.prog gs orc (n + 9) 106 [rowsV p, .int .i64 (i : Int)] σ) Q := by
  rw [W_start (m := 13) (keep := []) Try.func106 rfl (by kernel_rfl) (by kernel_rfl) (by first | rfl | assumption | exact f.h106) (by rfl)]
  simp (maxSteps := 2000000) only [B0, B1, B2, B3, B4, B5, B6, B7, Gd, extV, Nat.reduceLT, Nat.reduceEqDiff, Nat.reduceBEq, Nat.reduceAdd, Nat.reduceSub, Nat.reduceMul, ↓reduceIte, reduceCtorEq, if_true, if_false, ite_true, ite_false, Int.reduceLT, Int.reduceLE, ptr, callV_func Try.enters_154, callV_func Try.enters_156, inv_len,  len' f.toFree h,  callV_func Try.enters_154, rs_none (show Try.f106.results = #[] from rfl)]
  refine down_run f.toFree h (i0 := i) (m := A.length) (by omega) (by omega) (by omega) (by omega) he fun σ2 A2 b h2 hp2 ht2 hb1 hb2 hS2 => ?_
  cases b with
  | true =>
    simp (maxSteps := 2000000) only [B0, B1, B2, B3, B4, B5, B6, B7, Gd, extV, Nat.reduceLT, Nat.reduceEqDiff, Nat.reduceBEq, Nat.reduceAdd, Nat.reduceSub, Nat.reduceMul, ↓reduceIte, reduceCtorEq, if_true, if_false, ite_true, ite_false, Int.reduceLT, Int.reduceLE, ptr, callV_func Try.enters_154, callV_func Try.enters_156, rs_none (show Try.f106.results = #[] from rfl)]
    exact hQ σ2 A2 h2 hp2 (by rw [hp2.length_eq]; exact hb1 rfl) hS2
  | false =>
    obtain ⟨e, hk⟩ := hb2 rfl
    subst e
    simp (maxSteps := 2000000) only [B0, B1, B2, B3, B4, B5, B6, B7, Gd, extV, Nat.reduceLT, Nat.reduceEqDiff, Nat.reduceBEq, Nat.reduceAdd, Nat.reduceSub, Nat.reduceMul, ↓reduceIte, reduceCtorEq, if_true, if_false, ite_true, ite_false, Int.reduceLT, Int.reduceLE, ptr, callV_func Try.enters_154, callV_func Try.enters_156, callV_func Try.enters_156, rs_none (show Try.f106.results = #[] from rfl)]
    refine up_run f.toFree h2 (m := A2.length) (by omega) (by omega) (by omega) hi he hk fun σ3 A3 h3 hp3 _ hh3 hS3 => ?_
    simp (maxSteps := 2000000) only [B0, B1, B2, B3, B4, B5, B6, B7, Gd, extV, Nat.reduceLT, Nat.reduceEqDiff, Nat.reduceBEq, Nat.reduceAdd, Nat.reduceSub, Nat.reduceMul, ↓reduceIte, reduceCtorEq, if_true, if_false, ite_true, ite_false, Int.reduceLT, Int.reduceLE, ptr, callV_func Try.enters_154, callV_func Try.enters_156, rs_none (show Try.f106.results = #[] from rfl)]
    exact hQ σ3 A3 h3 hp3 (by rw [hp3.length_eq]; exact hh3) (hS2.trans hS3 fun b hb => .inl hb)
end Go.Proofs.Ytongccpmdndcgaa.Alm
end
/- Alarms: what their methods do. -/
section
set_option linter.all false
namespace Go.Proofs.Ytongccpmdndcgaa.Alm
open Go Go.AE Go.Hp
set_option maxRecDepth 100000
variable {gs : List Nat} {orc : Orc} {n : Nat} {σ : AHeap} {Q : Value × AHeap → Prop}

structure Free3 (orc : Orc) : Prop extends Free2 orc where
  h19 : orc 19 = none
  h22 : orc 22 = none
  h23 : orc 23 = none
  h24 : orc 24 = none
  h26 : orc 26 = none
  h27 : orc 27 = none
  h28 : orc 28 = none
  h30 : orc 30 = none
  h100 : orc 100 = none
/-- Alarms in memory, told in order. -/
structure HAt (σ : AHeap) (p : Nat) (F : List Nat) (L : List Al) : Prop where
  ex : ∃ A, AAt σ p F A ∧ Heap lt (fA A) A.length ∧ A.Perm L
  srt : L.Pairwise lt
  vals : ∀ x ∈ L, 0 < x.1.size ∧ 0 ≤ x.2 ∧ x.2 ≤ 1099511627776
theorem HAt.same {σ' : AHeap} {p : Nat} {F G : List Nat} {L : List Al} (h : HAt σ p F L) (hs : Same σ σ' G) (hd : ∀ b ∈ F, b ∉ G) : HAt σ' p F L := by
  obtain ⟨A, h1, h2, h3⟩ := h.ex; exact ⟨⟨A, h1.same hs hd, h2, h3⟩, h.srt, h.vals⟩
theorem HAt.low {p : Nat} {F : List Nat} {L : List Al} (h : HAt σ p F L) : ∀ b ∈ F, b < σ.next := by obtain ⟨A, h1, _⟩ := h.ex; exact h1.lt
theorem Plc.kd {A : List Al} {M : Prs} (h : Plc A M) : KD A := by
  unfold KD
  refine List.pairwise_iff_getElem.2 fun i j hi hj hij e => ?_
  have li : i < A.length := by simpa using hi
  have lj : j < A.length := by simpa using hj
  have := h.inj (List.getElem?_eq_getElem li) (List.getElem?_eq_getElem lj) (by simpa using e)
  omega
theorem AAt.kd {p : Nat} {F : List Nat} {A : List Al} (h : AAt σ p F A) : KD A := by obtain ⟨_, _, _, _, h2, _⟩ := h.ex; exact h2.kd
theorem HAt.kd {p : Nat} {F : List Nat} {L : List Al} (h : HAt σ p F L) : KD L := by obtain ⟨A, h1, _, h3⟩ := h.ex; exact h1.kd.perm h3
theorem HAt.keys {p : Nat} {F : List Nat} {L : List Al} (h : HAt σ p F L) : ∀ x ∈ L, x.1.size ≤ 64 := by obtain ⟨A, h1, _, h3⟩ := h.ex; exact fun x hx => h1.keys x (h3.mem_iff.2 hx)
theorem HAt.pin {p : Nat} {F : List Nat} {L : List Al} (h : HAt σ p F L) : p ∈ F := by obtain ⟨A, h1, _, h3⟩ := h.ex; obtain ⟨_, _, _, _, _, rfl⟩ := h1.ex; simp
theorem HAt.of {p : Nat} {F : List Nat} {A L : List Al} (h : AAt σ p F A) (hh : Heap lt (fA A) A.length) (hp : A.Perm L) (hs : L.Pairwise lt) (hv : ∀ x ∈ L, 0 < x.1.size ∧ 0 ≤ x.2 ∧ x.2 ≤ 1099511627776) : HAt σ p F L := ⟨⟨A, h, hh, hp⟩, hs, hv⟩
theorem len_h (f : Free orc) {p : Nat} {F : List Nat} {L : List Al} (h : HAt σ p F L) : W (acall Try.prog gs orc (n + 2) 20 [pt p] σ) Q = Q (.int .i64 (L.length : Int), σ) := by
  obtain ⟨A, h1, _, h3⟩ := h.ex
  rw [len' f h1, h3.length_eq]
theorem none_h (f : Free orc) {p : Nat} {F : List Nat} {L : List Al} (h : HAt σ p F L) : W (acall Try.prog gs orc (n + 1) 99 [pt p] σ) Q = Q (.bool false, σ) := by
  obtain ⟨A, h1, _, h3⟩ := h.ex
  exact none' f h1
theorem b58 {m : Option Nat} : build' Try.prog 58 [(1, .map m)] = some (.agg #[.slice none 0 0, .map m]) := by kernel_rfl
theorem b175 {a : Option Addr} : build' Try.prog 175 [(0, .pointer a)] = some (.agg #[.pointer a]) := by kernel_rfl
theorem b32 {s : ByteArray} {t : Int} : build' Try.prog 32 [(0, .string s), (1, .int .i64 t)] = some (.agg #[.string s, .int .i64 t]) := by kernel_rfl
theorem b32z : build' Try.prog 32 [] = some (.agg #[.string ⟨#[]⟩, .int .i64 0]) := by kernel_rfl
theorem new_run (f : Free3 orc) (hQ : ∀ σ' p F, HAt σ' p F [] → (∀ b ∈ F, σ.next ≤ b) → Same σ σ' [] → Q (pt p, σ')) : W (acall Try.prog gs orc (n + 1) 27 [] σ) Q := by
  rw [W_start (m := 4) (keep := []) Try.func27 rfl (by kernel_rfl) (by kernel_rfl) (by first | rfl | assumption | exact f.h27) (by rfl)]
  simp (maxSteps := 2000000) only [B0, B1, B2, B3, B4, B5, B6, B7, Gd, extV, Nat.reduceLT, Nat.reduceEqDiff, Nat.reduceBEq, Nat.reduceAdd, Nat.reduceSub, Nat.reduceMul, ↓reduceIte, reduceCtorEq, if_true, if_false, ite_true, ite_false, Int.reduceLT, Int.reduceLE, ptr, Value.cells,  b58,  AE.next_new, rs_tmp (show Try.f27.results = #[.tmp 0] from rfl)]
  have hS : Same σ (newCells (σ.new (.map [] 0 false)).2 58 [.slice none 0 0, .map (some σ.next)]).2 [] := (Same.new _ _).trans (.newCells _ _ _ _) nofun
  refine hQ _ (σ.next + 1) [σ.next + 1, σ.next] ⟨⟨[], ⟨⟨.slice none 0 0, σ.next, [], ⟨?_, ?_, by omega, by simp [blks], by simp [blks], ?_, .inl ⟨rfl, rfl⟩, ?_⟩, ⟨fun i x h => by simp at h, rfl, fun s h => by simp [mget] at h⟩, rfl⟩, nofun⟩, fun j j0 jn => by simp at jn, .refl _⟩, .nil, nofun⟩ (fun b hb => by simp at hb; omega) hS
  · simp [next_newCells, AE.next_new]
  · simp [next_newCells, AE.next_new]; omega
  · exact ⟨_, _, _, by rw [get_newCells, AE.next_new, if_pos rfl], by rw [Tr.get_of]; rfl, by rw [Tr.get_of]; rfl⟩
  · exact (MapAt.nil σ).of_get (by rw [get_newCells, AE.next_new, if_neg (by omega)])
theorem next_run (f : Free3 orc) {p : Nat} {F : List Nat} {L : List Al} (h : HAt σ p F L)
    (hQ : ∀ σ' b, Same σ σ' [] → (L = [] → b = false) → (∀ x l, L = x :: l → b = true) → Q (.tuple #[alV (L.headD (⟨#[]⟩, 0)), .bool b], σ')) : W (acall Try.prog gs orc (n + 3) 23 [pt p] σ) Q := by
  obtain ⟨σ1, e1, hS1, hn1⟩ : ∃ σ1, (newCells σ 32 [.string ⟨#[]⟩, .int .i64 0]).2 = σ1 ∧ Same σ σ1 [] ∧ σ1.next = σ.next + 1 := ⟨_, rfl, .newCells _ _ _ _, rfl⟩
  have h1 := h.same hS1 nofun
  cases L with
  | nil =>
    obtain ⟨σ2, t2, hld, hldc, hS2, hn2⟩ := alloc_store (σ := σ) (e := 32) (zs := [.string ⟨#[]⟩, .int .i64 0]) (vs := [.string ⟨#[]⟩, .int .i64 0]) (g := false) (by intro v hv; simp at hv; rcases hv with rfl | rfl <;> rfl) (by simp)
    have hldc' : ldCells σ2 σ.next 0 2 = some [.string ⟨#[]⟩, .int .i64 0] := hldc
    rw [e1] at t2
    rw [W_start (m := 14) (keep := []) Try.func23 rfl (by kernel_rfl) (by kernel_rfl) (by first | rfl | assumption | exact f.h23) (by rfl)]
    simp (maxSteps := 2000000) only [B0, B1, B2, B3, B4, B5, B6, B7, Gd, extV, Nat.reduceLT, Nat.reduceEqDiff, Nat.reduceBEq, Nat.reduceAdd, Nat.reduceSub, Nat.reduceMul, ↓reduceIte, reduceCtorEq, if_true, if_false, ite_true, ite_false, Int.reduceLT, Int.reduceLE, ptr, allocV_zero Try.zero_32, callV_func Try.enters_20, Try.st_32, Try.fa_58_0, Try.ld_27, Try.ia_27, Try.ld_32, Value.cells,  allocV_zero Try.zero_32,  callV_func Try.enters_20,  e1,  len_h f.toFree h1,  b32z,  Try.st_32,  List.size_toArray,  t2,  hldc',  Try.ld_32, rs_ct (show Try.f23.results = #[.cell 2 32,  .tmp 3] from rfl)]
    exact hQ σ2 false hS2 (fun _ => rfl) (fun x l e => by cases e)
  | cons x l =>
    obtain ⟨A, g1, hh, hp⟩ := h1.ex
    obtain ⟨sv, m, M, g2, g3, rfl⟩ := g1.ex
    have hx := head_min hp h.srt hh
    obtain ⟨b, o, cap, g, rfl, hcap, hb, hr⟩ := g2.row.at_ hx
    have hc := hr.ldCells encOk hx
    simp only [encA, Nat.zero_mul, Nat.add_zero] at hc
    have hl0 : 0 < A.length := (List.getElem?_eq_some_iff.1 hx).1
    obtain ⟨σ2, t2, hld, hldc, hS2, hn2⟩ := alloc_store (σ := σ) (e := 32) (zs := [.string ⟨#[]⟩, .int .i64 0]) (vs := [.string x.1, .int .i64 x.2]) (g := false) (by intro v hv; simp at hv; rcases hv with rfl | rfl <;> rfl) (by simp)
    have hldc' : ldCells σ2 σ.next 0 2 = some [.string x.1, .int .i64 x.2] := hldc
    rw [e1] at t2
    have d1 : ((((l.length + 1 : Nat) : Int)) = 0) = False := by simp; omega
    rw [W_start (m := 14) (keep := []) Try.func23 rfl (by kernel_rfl) (by kernel_rfl) (by first | rfl | assumption | exact f.h23) (by rfl)]
    simp (maxSteps := 2000000) only [B0, B1, B2, B3, B4, B5, B6, B7, Gd, extV, Nat.reduceLT, Nat.reduceEqDiff, Nat.reduceBEq, Nat.reduceAdd, Nat.reduceSub, Nat.reduceMul, ↓reduceIte, reduceCtorEq, if_true, if_false, ite_true, ite_false, Int.reduceLT, Int.reduceLE, ptr, allocV_zero Try.zero_32, callV_func Try.enters_20, Try.st_32, Try.fa_58_0, Try.ld_27, Try.ia_27, Try.ld_32, Value.cells,  allocV_zero Try.zero_32,  callV_func Try.enters_20,  e1,  len_h f.toFree h1,  d1,  Try.fa_58_0,  Try.ld_27,  g2.ld0,  Try.ia_27,  hl0,  Nat.zero_mul,  hc,  Try.st_32,  List.size_toArray,  t2,  hldc',  Try.ld_32, rs_ct (show Try.f23.results = #[.cell 2 32,  .tmp 3] from rfl)]
    exact hQ σ2 true hS2 (fun e => by cases e) (fun _ _ _ => rfl)
end Go.Proofs.Ytongccpmdndcgaa.Alm
end
/- Alarms: At, Drop, Set. -/
section
set_option linter.all false
namespace Go.Proofs.Ytongccpmdndcgaa.Alm
open Go Go.AE Go.Hp
set_option maxRecDepth 100000
variable {gs : List Nat} {orc : Orc} {n : Nat} {σ : AHeap} {Q : Value × AHeap → Prop}

/-- A key sought. -/
theorem seek {p m : Nat} {sv : Value} {A L : List Al} {M : Prs} (h : AlAt σ p sv m A M) (hp : Plc A M) (hl : A.Perm L) (k : ByteArray) :
    ((∀ y ∈ L, y.1 ≠ k) ∧ mget M k = none ∧ getA k L = none) ∨ ∃ (i : Nat) (x : Al), A[i]? = some x ∧ x.1 = k ∧ mget M k = some (.int .i64 (i : Int)) ∧ getA k L = some x.2 := by
  cases q : mget M k with
  | none =>
    left
    have no : ∀ y ∈ L, y.1 ≠ k := fun y hy e => by
      obtain ⟨i, hi, ei⟩ := List.mem_iff_getElem.1 (hl.mem_iff.2 hy)
      have := hp.at_ i y (by rw [List.getElem?_eq_getElem hi, ei])
      rw [e, q] at this
      cases this
    exact ⟨no, rfl, getA_none no⟩
  | some v =>
    right
    obtain ⟨x, hx, e⟩ := hp.only k (by rw [q]; rfl)
    obtain ⟨i, hi, ei⟩ := List.mem_iff_getElem.1 hx
    have hix : A[i]? = some x := by rw [List.getElem?_eq_getElem hi, ei]
    have := hp.at_ i x hix
    rw [e, q] at this
    exact ⟨i, x, hix, e, this, by rw [← e]; exact getA_mem (hp.kd.perm hl) (hl.mem_iff.1 hx)⟩
theorem at_run (f : Free3 orc) {p : Nat} {F : List Nat} {L : List Al} (h : HAt σ p F L) (k : ByteArray) :
    W (acall Try.prog gs orc (n + 2) 22 [pt p, .string k] σ) Q = Q (.tuple #[.int .i64 ((getA k L).getD 0), .bool (getA k L).isSome], σ) := by
  obtain ⟨A, h1, hh, hp⟩ := h.ex
  obtain ⟨sv, m, M, h2, h3, rfl⟩ := h1.ex
  have hlk := lookup_spec Try.underlying56 Try.underlying9 Try.zero_3 h2.map k true
  rcases seek h2 h3 hp k with ⟨_, e1, e2⟩ | ⟨i, x, hi, hx, e1, e2⟩
  · rw [e1] at hlk
    simp only [if_true, Option.getD_none, Option.isSome_none] at hlk
    rw [W_start (m := 29) (keep := []) Try.func22 rfl (by kernel_rfl) (by kernel_rfl) (by first | rfl | assumption | exact f.h22) (by rfl)]
    simp (maxSteps := 2000000) only [B0, B1, B2, B3, B4, B5, B6, B7, Gd, extV, Nat.reduceLT, Nat.reduceEqDiff, Nat.reduceBEq, Nat.reduceAdd, Nat.reduceSub, Nat.reduceMul, ↓reduceIte, reduceCtorEq, if_true, if_false, ite_true, ite_false, Int.reduceLT, Int.reduceLE, ptr, callV_func Try.enters_99, Try.fa_58_1, Try.ld_56, Try.fa_58_0, Try.ld_27, Try.ia_27, Try.fa_32_1, Try.ld_2, callV_func Try.enters_99,  none_h f.toFree h,  Try.fa_58_1,  Try.ld_56,  h2.ld1,  hlk,  e2,  Option.isSome_none, rs_two (show Try.f22.results = #[.tmp 4,  .tmp 5] from rfl)]
  · rw [e1] at hlk
    simp only [if_true, Option.getD_some, Option.isSome_some] at hlk
    obtain ⟨b, o, cap, g, rfl, hcap, hb, hr⟩ := h2.row.at_ hi
    have hv := hr.ld (j := 1) (v := .int .i64 x.2) hi rfl
    have li : i < A.length := (List.getElem?_eq_some_iff.1 hi).1
    rw [W_start (m := 29) (keep := []) Try.func22 rfl (by kernel_rfl) (by kernel_rfl) (by first | rfl | assumption | exact f.h22) (by rfl)]
    simp (maxSteps := 2000000) only [B0, B1, B2, B3, B4, B5, B6, B7, Gd, extV, Nat.reduceLT, Nat.reduceEqDiff, Nat.reduceBEq, Nat.reduceAdd, Nat.reduceSub, Nat.reduceMul, ↓reduceIte, reduceCtorEq, if_true, if_false, ite_true, ite_false, Int.reduceLT, Int.reduceLE, ptr, callV_func Try.enters_99, Try.fa_58_1, Try.ld_56, Try.fa_58_0, Try.ld_27, Try.ia_27, Try.fa_32_1, Try.ld_2, callV_func Try.enters_99,  none_h f.toFree h,  Try.fa_58_0,  Try.fa_58_1,  Try.fa_32_1,  Try.ld_56,  Try.ld_27,  Try.ld_2,  Try.ia_27,  h2.ld0,  h2.ld1,  hlk,  li,  hv,  e2,  Option.isSome_some, rs_two (show Try.f22.results = #[.tmp 4,  .tmp 5] from rfl)]
theorem drop_run (f : Free3 orc) {p : Nat} {F : List Nat} {L : List Al} (h : HAt σ p F L) (k : ByteArray) (hn : L.length ≤ n) (hN : L.length ≤ 1048576)
    (hQ : ∀ σ', HAt σ' p F (remA k L) → Same σ σ' F → Q (.int .i64 (if (getA k L).isSome then 0 else 6), σ')) :
    W (acall Try.prog gs orc (n + 10) 30 [pt p, .string k] σ) Q := by
  obtain ⟨A, h1, hh, hp⟩ := h.ex
  obtain ⟨sv, m, M, h2, h3, rfl⟩ := h1.ex
  have hlk := lookup_spec Try.underlying56 Try.underlying9 Try.zero_3 h2.map k true
  have hll := hp.length_eq
  rcases seek h2 h3 hp k with ⟨e0, e1, e2⟩ | ⟨i, x, hi, hx, e1, e2⟩
  · rw [e1] at hlk
    simp only [if_true, Option.getD_none, Option.isSome_none] at hlk
    rw [W_start (m := 25) (keep := []) Try.func30 rfl (by kernel_rfl) (by kernel_rfl) (by first | rfl | assumption | exact f.h30) (by rfl)]
    simp (maxSteps := 2000000) only [B0, B1, B2, B3, B4, B5, B6, B7, Gd, extV, Nat.reduceLT, Nat.reduceEqDiff, Nat.reduceBEq, Nat.reduceAdd, Nat.reduceSub, Nat.reduceMul, ↓reduceIte, reduceCtorEq, if_true, if_false, ite_true, ite_false, Int.reduceLT, Int.reduceLE, ptr, callV_func Try.enters_99, Try.fa_58_1, Try.ld_56, Try.mi_175, callV_func Try.enters_107, callV_func Try.enters_99,  none_h f.toFree h,  Try.fa_58_1,  Try.ld_56,  h2.ld1,  hlk, rs_tmp (show Try.f30.results = #[.tmp 4] from rfl)]
    have := hQ σ (by rw [remA_not e0]; exact h) (.refl _ _)
    rw [e2] at this
    exact this
  · rw [e1] at hlk
    simp only [if_true, Option.getD_some, Option.isSome_some] at hlk
    have li : i < A.length := (List.getElem?_eq_some_iff.1 hi).1
    rw [W_start (m := 25) (keep := []) Try.func30 rfl (by kernel_rfl) (by kernel_rfl) (by first | rfl | assumption | exact f.h30) (by rfl)]
    simp (maxSteps := 2000000) only [B0, B1, B2, B3, B4, B5, B6, B7, Gd, extV, Nat.reduceLT, Nat.reduceEqDiff, Nat.reduceBEq, Nat.reduceAdd, Nat.reduceSub, Nat.reduceMul, ↓reduceIte, reduceCtorEq, if_true, if_false, ite_true, ite_false, Int.reduceLT, Int.reduceLE, ptr, callV_func Try.enters_99, Try.fa_58_1, Try.ld_56, Try.mi_175, callV_func Try.enters_107, callV_func Try.enters_99,  none_h f.toFree h,  Try.fa_58_1,  Try.ld_56,  h2.ld1,  hlk,  b175,  Try.mi_175,  callV_func Try.enters_107, rs_tmp (show Try.f30.results = #[.tmp 4] from rfl)]
    refine hremove_run f.toFree2 h1 (k := A.length - 1) (by omega) hi hh (by omega) (by omega) fun σ1 A1 g1 gp gh gS => ?_
    simp (maxSteps := 2000000) only [B0, B1, B2, B3, B4, B5, B6, B7, Gd, extV, Nat.reduceLT, Nat.reduceEqDiff, Nat.reduceBEq, Nat.reduceAdd, Nat.reduceSub, Nat.reduceMul, ↓reduceIte, reduceCtorEq, if_true, if_false, ite_true, ite_false, Int.reduceLT, Int.reduceLE, ptr, callV_func Try.enters_99, Try.fa_58_1, Try.ld_56, Try.mi_175, callV_func Try.enters_107, rs_tmp (show Try.f30.results = #[.tmp 4] from rfl)]
    have hk := h1.kd
    have := hQ σ1 (HAt.of g1 gh (L := remA k L) ?_ (remA_pair h.srt) fun y hy => h.vals y (mem_remA.1 hy).1) gS
    · rw [e2] at this; exact this
    · have q1 : (remA k (x :: A1)).Perm (remA k L) := remA_perm (gp.trans hp)
      rw [← hx, remA_cons_self (hk.perm gp.symm)] at q1
      rw [← hx]; exact q1
end Go.Proofs.Ytongccpmdndcgaa.Alm
end
/- Alarms: Set. -/
section
set_option linter.all false
namespace Go.Proofs.Ytongccpmdndcgaa.Alm
open Go Go.AE Go.Hp
set_option maxRecDepth 100000
variable {gs : List Nat} {orc : Orc} {n : Nat} {σ : AHeap} {Q : Value × AHeap → Prop}

theorem AlAt.putAt {p m b o len cap : Nat} {A : List Al} {M : Prs} (h : AlAt σ p (.slice (some ⟨b, o, none⟩) len cap) m A M) {i : Nat} {x : Al} (hi : A[i]? = some x) (t : Int) :
    ∃ σ', stCells σ b (o + i * 2 + 1) [.int .i64 t] = some σ' ∧ AlAt σ' p (.slice (some ⟨b, o, none⟩) len cap) m (A.set i (x.1, t)) M ∧ Same σ σ' [b] := by
  obtain ⟨b', o', cap', g, e, hc, hb, hr⟩ := h.row.at_ hi
  injection e with e1 e2 e3
  injection e1 with e1
  injection e1 with e1 e4
  subst e1 e2 e3 e4
  obtain ⟨ob, h1, h2⟩ := hr.putField encOk hi hc (j := 1) (v := .int .i64 t) (y := (x.1, t)) rfl (by omega) rfl
  have hs := Same.set σ b ob
  have hp : p ∉ [b] := fun q => h.ps (by simpa [blks] using q)
  have hm : m ∉ [b] := fun q => h.ms (by simpa [blks] using q)
  refine ⟨σ.set b ob, h1, ⟨h.lp, h.lm, h.pm, h.ps, h.ms, ?_, .inr (.inr ⟨b, o, cap, g, by rw [List.length_set], by rw [List.length_set]; exact hc, hb, h2⟩), h.map.of_get (hs.get m h.lm hm)⟩, hs⟩
  obtain ⟨np, cp, gp, e, r⟩ := h.obj
  exact ⟨np, cp, gp, by rw [hs.get p h.lp hp]; exact e, r⟩
theorem set_erase {α : Type} (y : α) : ∀ (A : List α) (i : Nat), i < A.length → (A.set i y).Perm (y :: A.eraseIdx i)
  | [], i, h => by simp at h
  | a :: A, 0, _ => .refl _
  | a :: A, i + 1, h => by
    rw [List.set_cons_succ, List.eraseIdx_cons_succ]
    exact ((set_erase y A i (by simpa using h)).cons a).trans (.swap _ _ _)
theorem erase_perm {α : Type} {x : α} : ∀ (A : List α) (i : Nat), A[i]? = some x → (x :: A.eraseIdx i).Perm A
  | [], i, h => by simp at h
  | a :: A, 0, h => by simp at h; subst h; exact .refl _
  | a :: A, i + 1, h => by
    rw [List.eraseIdx_cons_succ]
    exact (List.Perm.swap _ _ _).trans ((erase_perm A i (by simpa using h)).cons a)
theorem Plc.setAt {A : List Al} {M : Prs} (h : Plc A M) {i : Nat} {x : Al} (hi : A[i]? = some x) (t : Int) : Plc (A.set i (x.1, t)) M := by
  have li : i < A.length := (List.getElem?_eq_some_iff.1 hi).1
  refine ⟨fun j z hz => ?_, by rw [List.length_set]; exact h.len, fun s hs => ?_⟩
  · by_cases e : j = i
    · subst e
      rw [List.getElem?_set_self li] at hz
      cases hz
      exact h.at_ j x hi
    · rw [List.getElem?_set_ne (fun q => e q.symm)] at hz
      exact h.at_ j z hz
  · obtain ⟨z, hz, e⟩ := h.only s hs
    obtain ⟨j, hj, ej⟩ := List.mem_iff_getElem.1 hz
    by_cases q : j = i
    · subst q
      rw [List.getElem?_eq_getElem hj, ej] at hi
      cases hi
      exact ⟨_, List.mem_of_getElem? (List.getElem?_set_self hj), e⟩
    · exact ⟨z, List.mem_of_getElem? (i := j) (by rw [List.getElem?_set_ne (fun e => q e.symm), List.getElem?_eq_getElem hj, ej]), e⟩
def setA (k : ByteArray) (t : Int) (L : List Al) : List Al := insA (k, t) (remA k L)
/-- What may not be set. -/
def bad (k : ByteArray) (t : Int) : Prop := k.size = 0 ∨ 64 < k.size ∨ t < 0 ∨ 1099511627776 < t
instance (k : ByteArray) (t : Int) : Decidable (bad k t) := inferInstanceAs (Decidable (_ ∨ _ ∨ _ ∨ _))
theorem size0 {k : ByteArray} : k.size = 0 ↔ k = ⟨#[]⟩ := by
  constructor
  · intro h; cases k with | mk x => congr 1; exact Array.eq_empty_of_size_eq_zero h
  · intro h; subst h; rfl
theorem setA_pair {k : ByteArray} {t : Int} {L : List Al} (h : L.Pairwise lt) : (setA k t L).Pairwise lt := insA_pair (remA_pair h) fun y hy => (mem_remA.1 hy).2
theorem setA_mem {k : ByteArray} {t : Int} {L : List Al} {y : Al} (h : y ∈ setA k t L) : y = (k, t) ∨ y ∈ L := by
  rcases List.mem_cons.1 ((insA_perm _ _).mem_iff.1 h) with h | h
  · exact .inl h
  · exact .inr (mem_remA.1 h).1
theorem set_run (f : Free3 orc) {p : Nat} {F : List Nat} {L : List Al} (h : HAt σ p F L) (k : ByteArray) (t : Int) (hn : L.length + 1 ≤ n) (hN : L.length + 1 ≤ 1048576)
    (hQ : ∀ σ' F', HAt σ' p F' (if bad k t then L else setA k t L) → (∀ b ∈ F', b ∈ F ∨ σ.next ≤ b) → Same σ σ' F → Q (.int .i64 (if bad k t then 1 else 0), σ')) :
    W (acall Try.prog gs orc (n + 10) 28 [pt p, .string k, .int .i64 t] σ) Q := by
  have d1 : (k = ⟨#[]⟩) = (k.size = 0) := propext size0.symm
  by_cases hb : bad k t
  · have := hQ σ F (by rw [if_pos hb]; exact h) (fun b hb => .inl hb) (.refl _ _)
    rw [if_pos hb] at this
    rw [W_start (m := 60) (keep := []) Try.func28 rfl (by kernel_rfl) (by kernel_rfl) (by first | rfl | assumption | exact f.h28) (by rfl)]
    by_cases c1 : k.size = 0
    · simp (maxSteps := 2000000) only [B0, B1, B2, B3, B4, B5, B6, B7, Gd, extV, Nat.reduceLT, Nat.reduceEqDiff, Nat.reduceBEq, Nat.reduceAdd, Nat.reduceSub, Nat.reduceMul, ↓reduceIte, reduceCtorEq, if_true, if_false, ite_true, ite_false, Int.reduceLT, Int.reduceLE, ptr, callV_func Try.enters_99, Try.len_9, Try.fa_58_1, Try.ld_56, Try.mi_175, Try.mi_32, callV_func Try.enters_105, Try.fa_58_0, Try.ld_27, Try.ia_27, Try.fa_32_1, Try.st_2, callV_func Try.enters_106, callV_func Try.enters_99,  none_h f.toFree h,  d1,  c1,  Try.len_9, rs_tmp (show Try.f28.results = #[.tmp 6] from rfl)]
      exact this
    · by_cases c2 : 64 < (k.size : Int)
      · simp (maxSteps := 2000000) only [B0, B1, B2, B3, B4, B5, B6, B7, Gd, extV, Nat.reduceLT, Nat.reduceEqDiff, Nat.reduceBEq, Nat.reduceAdd, Nat.reduceSub, Nat.reduceMul, ↓reduceIte, reduceCtorEq, if_true, if_false, ite_true, ite_false, Int.reduceLT, Int.reduceLE, ptr, callV_func Try.enters_99, Try.len_9, Try.fa_58_1, Try.ld_56, Try.mi_175, Try.mi_32, callV_func Try.enters_105, Try.fa_58_0, Try.ld_27, Try.ia_27, Try.fa_32_1, Try.st_2, callV_func Try.enters_106, callV_func Try.enters_99,  none_h f.toFree h,  d1,  c1,  c2,  Try.len_9, rs_tmp (show Try.f28.results = #[.tmp 6] from rfl)]
        exact this
      · by_cases c3 : t < 0
        · simp (maxSteps := 2000000) only [B0, B1, B2, B3, B4, B5, B6, B7, Gd, extV, Nat.reduceLT, Nat.reduceEqDiff, Nat.reduceBEq, Nat.reduceAdd, Nat.reduceSub, Nat.reduceMul, ↓reduceIte, reduceCtorEq, if_true, if_false, ite_true, ite_false, Int.reduceLT, Int.reduceLE, ptr, callV_func Try.enters_99, Try.len_9, Try.fa_58_1, Try.ld_56, Try.mi_175, Try.mi_32, callV_func Try.enters_105, Try.fa_58_0, Try.ld_27, Try.ia_27, Try.fa_32_1, Try.st_2, callV_func Try.enters_106, callV_func Try.enters_99,  none_h f.toFree h,  d1,  c1,  c2,  c3,  Try.len_9, rs_tmp (show Try.f28.results = #[.tmp 6] from rfl)]
          exact this
        · have c4 : 1099511627776 < t := by unfold bad at hb; omega
          simp (maxSteps := 2000000) only [B0, B1, B2, B3, B4, B5, B6, B7, Gd, extV, Nat.reduceLT, Nat.reduceEqDiff, Nat.reduceBEq, Nat.reduceAdd, Nat.reduceSub, Nat.reduceMul, ↓reduceIte, reduceCtorEq, if_true, if_false, ite_true, ite_false, Int.reduceLT, Int.reduceLE, ptr, callV_func Try.enters_99, Try.len_9, Try.fa_58_1, Try.ld_56, Try.mi_175, Try.mi_32, callV_func Try.enters_105, Try.fa_58_0, Try.ld_27, Try.ia_27, Try.fa_32_1, Try.st_2, callV_func Try.enters_106, callV_func Try.enters_99,  none_h f.toFree h,  d1,  c1,  c2,  c3,  c4,  Try.len_9, rs_tmp (show Try.f28.results = #[.tmp 6] from rfl)]
          exact this
  · have hb' := hb
    unfold bad at hb
    have c1 : ¬ k.size = 0 := by omega
    have c2 : ¬ 64 < (k.size : Int) := by omega
    have c3 : ¬ t < 0 := by omega
    have c4 : ¬ 1099511627776 < t := by omega
    simp only [if_neg hb'] at hQ
    obtain ⟨A, h1, hh, hp⟩ := h.ex
    obtain ⟨sv, m, M, h2, h3, rfl⟩ := h1.ex
    have hlk := lookup_spec Try.underlying56 Try.underlying9 Try.zero_3 h2.map k true
    have hll := hp.length_eq
    have vals : ∀ y ∈ setA k t L, 0 < y.1.size ∧ 0 ≤ y.2 ∧ y.2 ≤ 1099511627776 := fun y hy => by
      rcases setA_mem hy with e | hy
      · subst e; exact ⟨by show 0 < k.size; omega, by show 0 ≤ t; omega, by show t ≤ 1099511627776; omega⟩
      · exact h.vals y hy
    rcases seek h2 h3 hp k with ⟨e0, e1, e2⟩ | ⟨i, x, hi, hx, e1, e2⟩
    · rw [e1] at hlk
      simp only [if_true, Option.getD_none, Option.isSome_none] at hlk
      rw [W_start (m := 60) (keep := []) Try.func28 rfl (by kernel_rfl) (by kernel_rfl) (by first | rfl | assumption | exact f.h28) (by rfl)]
      simp (maxSteps := 2000000) only [B0, B1, B2, B3, B4, B5, B6, B7, Gd, extV, Nat.reduceLT, Nat.reduceEqDiff, Nat.reduceBEq, Nat.reduceAdd, Nat.reduceSub, Nat.reduceMul, ↓reduceIte, reduceCtorEq, if_true, if_false, ite_true, ite_false, Int.reduceLT, Int.reduceLE, ptr, callV_func Try.enters_99, Try.len_9, Try.fa_58_1, Try.ld_56, Try.mi_175, Try.mi_32, callV_func Try.enters_105, Try.fa_58_0, Try.ld_27, Try.ia_27, Try.fa_32_1, Try.st_2, callV_func Try.enters_106, callV_func Try.enters_99,  none_h f.toFree h,  d1,  c1,  c2,  c3,  c4,  Try.len_9,  Try.fa_58_1,  Try.ld_56,  h2.ld1,  hlk,  b175,  b32,  Try.mi_175,  Try.mi_32,  callV_func Try.enters_105, rs_tmp (show Try.f28.results = #[.tmp 6] from rfl)]
      refine hpush_run f.toFree2 (x := (k, t)) h1 hh (by omega) (by omega) (by show k.size ≤ 64; omega) (fun y hy => e0 y (hp.mem_iff.1 hy)) fun σ1 F1 A1 g1 gp gh gF gS => ?_
      simp (maxSteps := 2000000) only [B0, B1, B2, B3, B4, B5, B6, B7, Gd, extV, Nat.reduceLT, Nat.reduceEqDiff, Nat.reduceBEq, Nat.reduceAdd, Nat.reduceSub, Nat.reduceMul, ↓reduceIte, reduceCtorEq, if_true, if_false, ite_true, ite_false, Int.reduceLT, Int.reduceLE, ptr, callV_func Try.enters_99, Try.len_9, Try.fa_58_1, Try.ld_56, Try.mi_175, Try.mi_32, callV_func Try.enters_105, Try.fa_58_0, Try.ld_27, Try.ia_27, Try.fa_32_1, Try.st_2, callV_func Try.enters_106, rs_tmp (show Try.f28.results = #[.tmp 6] from rfl)]
      refine hQ σ1 F1 (HAt.of g1 gh ?_ (setA_pair h.srt) vals) gF gS
      unfold setA
      rw [remA_not e0]
      exact gp.trans ((List.perm_append_singleton _ _).trans ((hp.cons _).trans (insA_perm _ _).symm))
    · rw [e1] at hlk
      simp only [if_true, Option.getD_some, Option.isSome_some] at hlk
      obtain ⟨b, o, cap, g, rfl, hcap, hbl, hr⟩ := h2.row.at_ hi
      obtain ⟨σ1, t1, g1, gS⟩ := h2.putAt hi t
      have li : i < A.length := (List.getElem?_eq_some_iff.1 hi).1
      rw [W_start (m := 60) (keep := []) Try.func28 rfl (by kernel_rfl) (by kernel_rfl) (by first | rfl | assumption | exact f.h28) (by rfl)]
      simp (maxSteps := 2000000) only [B0, B1, B2, B3, B4, B5, B6, B7, Gd, extV, Nat.reduceLT, Nat.reduceEqDiff, Nat.reduceBEq, Nat.reduceAdd, Nat.reduceSub, Nat.reduceMul, ↓reduceIte, reduceCtorEq, if_true, if_false, ite_true, ite_false, Int.reduceLT, Int.reduceLE, ptr, callV_func Try.enters_99, Try.len_9, Try.fa_58_1, Try.ld_56, Try.mi_175, Try.mi_32, callV_func Try.enters_105, Try.fa_58_0, Try.ld_27, Try.ia_27, Try.fa_32_1, Try.st_2, callV_func Try.enters_106, Value.cells,  callV_func Try.enters_99,  none_h f.toFree h,  d1,  c1,  c2,  c3,  c4,  Try.len_9,  Try.fa_58_0,  Try.fa_58_1,  Try.fa_32_1,  Try.ld_56,  Try.ld_27,  Try.ia_27,  Try.st_2,  List.size_toArray,  li,  h2.ld0,  h2.ld1,  hlk,  t1,  b175,  Try.mi_175,  callV_func Try.enters_106, rs_tmp (show Try.f28.results = #[.tmp 6] from rfl)]
      have g2 : AAt σ1 p (p :: m :: blks (.slice (some ⟨b, o, none⟩) A.length cap)) (A.set i (x.1, t)) := ⟨⟨_, m, M, g1, h3.setAt hi t, rfl⟩, fun z hz => by
        rcases List.mem_or_eq_of_mem_set hz with hz | hz
        · exact h1.keys z hz
        · subst hz; exact h1.keys x (List.mem_of_getElem? hi)⟩
      refine hfix_run f.toFree2 g2 (i := i) (by rw [List.length_set]; exact li) (by rw [List.length_set]; exact exc_of ordOk hh (Nat.le_refl _) li fun j hj ji => by unfold fA; rw [List.getElem?_set_ne (fun e => ji e.symm)]) (by rw [List.length_set]; omega) (by rw [List.length_set]; omega) fun σ2 A2 k2 kp kh kS => ?_
      simp (maxSteps := 2000000) only [B0, B1, B2, B3, B4, B5, B6, B7, Gd, extV, Nat.reduceLT, Nat.reduceEqDiff, Nat.reduceBEq, Nat.reduceAdd, Nat.reduceSub, Nat.reduceMul, ↓reduceIte, reduceCtorEq, if_true, if_false, ite_true, ite_false, Int.reduceLT, Int.reduceLE, ptr, callV_func Try.enters_99, Try.len_9, Try.fa_58_1, Try.ld_56, Try.mi_175, Try.mi_32, callV_func Try.enters_105, Try.fa_58_0, Try.ld_27, Try.ia_27, Try.fa_32_1, Try.st_2, callV_func Try.enters_106, rs_tmp (show Try.f28.results = #[.tmp 6] from rfl)]
      refine hQ σ2 _ (HAt.of k2 kh ?_ (setA_pair h.srt) vals) (fun b hb => .inl hb) ((gS.mono fun c hc => by simp [blks] at hc ⊢; exact .inr (.inr hc)).trans kS fun b hb => .inl hb)
      have q1 := (remA_perm (k := k) ((erase_perm A i hi).trans hp))
      rw [← hx, remA_cons_self (h1.kd.perm (erase_perm A i hi).symm)] at q1
      unfold setA
      rw [← hx]
      exact (kp.trans (set_erase _ A i li)).trans ((q1.cons _).trans (insA_perm _ _).symm)
end Go.Proofs.Ytongccpmdndcgaa.Alm
end
/- Alarms: Due. -/
section
set_option linter.all false
namespace Go.Proofs.Ytongccpmdndcgaa.Alm
open Go Go.AE Go.Hp
set_option maxRecDepth 100000
variable {gs : List Nat} {orc : Orc} {n : Nat} {σ : AHeap} {Q : Value × AHeap → Prop}

theorem hpop_h (f : Free2 orc) {p : Nat} {F : List Nat} {x : Al} {l : List Al} (h : HAt σ p F (x :: l)) (hn : l.length + 1 ≤ n) (hN : l.length + 1 ≤ 1048576)
    (hQ : ∀ σ', HAt σ' p F l → Same σ σ' F → Q (.iface 32 (alV x), σ')) : W (acall Try.prog gs orc (n + 9) 103 [rowsV p] σ) Q := by
  obtain ⟨A, h1, hh, hp⟩ := h.ex
  have hl := hp.length_eq
  simp at hl
  refine hpop_run f h1 (k := l.length) (by omega) (head_min hp h.srt hh) hh (by omega) (by omega) fun σ1 A1 g1 gp gh gS => hQ σ1 (HAt.of g1 gh ((List.perm_cons x).1 (gp.trans hp)) (List.pairwise_cons.1 h.srt).2 fun y hy => h.vals y (by simp [hy])) gS
theorem due_run (f : Free3 orc) {p : Nat} {F : List Nat} {L : List Al} (h : HAt σ p F L) (now : Int) (hn : L.length + 1 ≤ n) (hN : L.length + 1 ≤ 1048576)
    (hQ : ∀ σ' v, HAt σ' p F (left now L) → SlAt σ' 32 2 encA v (due now L) → (∀ b ∈ blks v, σ.next ≤ b) → Same σ σ' F → Q (v, σ')) :
    W (acall Try.prog gs orc (n + 10) 24 [pt p, .int .i64 now] σ) Q := by
  rw [W_start (m := 35) (keep := []) Try.func24 rfl (by kernel_rfl) (by kernel_rfl) (by first | rfl | assumption | exact f.h24) (by rfl)]
  simp (maxSteps := 2000000) only [B0, B1, B2, B3, B4, B5, B6, B7, Gd, extV, Nat.reduceLT, Nat.reduceEqDiff, Nat.reduceBEq, Nat.reduceAdd, Nat.reduceSub, Nat.reduceMul, ↓reduceIte, reduceCtorEq, if_true, if_false, ite_true, ite_false, Int.reduceLT, Int.reduceLE, ptr, callV_func Try.enters_23, allocV_zero Try.zero_32, Try.st_32, Try.fa_32_1, Try.ld_2, Try.mi_175, callV_func Try.enters_103, Try.ld_32, callV_func Try.enters_23, rs_tmp (show Try.f24.results = #[.tmp 4] from rfl)]
  refine next_run f h fun σ1 c hS1 hc0 hc1 => ?_
  obtain ⟨σ2, e2, hS2, hv2, hn2⟩ : ∃ σ2, (newCells σ1 32 [.string ⟨#[]⟩, .int .i64 0]).2 = σ2 ∧ Same σ1 σ2 [] ∧ VarAt σ2 σ1.next [.string ⟨#[]⟩, .int .i64 0] ∧ σ2.next = σ1.next + 1 := ⟨_, rfl, .newCells _ _ _ _, .new _ _ _ _, rfl⟩
  obtain ⟨σ3, t3, hv3, hS3, hn3⟩ := hv2.store (vs' := [.string (L.headD (⟨#[]⟩, 0)).1, .int .i64 (L.headD (⟨#[]⟩, 0)).2]) rfl (by intro v hv; simp at hv; rcases hv with rfl | rfl <;> rfl)
  have hs1 := hS1.next
  have h3 : HAt σ3 p F L := ((h.same hS1 nofun).same hS2 nofun).same hS3 (fun b hb q => by have := h.low b hb; simp at q; omega)
  have hS : Same σ σ3 F := (((hS1.app hS2).app hS3).old fun b hb => by simp at hb; exact .inr (by omega))
  simp (maxSteps := 2000000) only [B0, B1, B2, B3, B4, B5, B6, B7, Gd, extV, Nat.reduceLT, Nat.reduceEqDiff, Nat.reduceBEq, Nat.reduceAdd, Nat.reduceSub, Nat.reduceMul, ↓reduceIte, reduceCtorEq, if_true, if_false, ite_true, ite_false, Int.reduceLT, Int.reduceLE, ptr, callV_func Try.enters_23, allocV_zero Try.zero_32, Try.st_32, Try.fa_32_1, Try.ld_2, Try.mi_175, callV_func Try.enters_103, Try.ld_32, Value.cells,  alV,  allocV_zero Try.zero_32,  e2,  Try.st_32,  List.size_toArray,  t3, rs_tmp (show Try.f24.results = #[.tmp 4] from rfl)]
  refine W_inv (fun k fr σ' => ∃ (t : Tr Value) (L1 D : List Al) (v : Value) (c : Bool) (b6 : Nat), fr = ⟨35, t⟩ ∧ t.get 0 = some (pt p) ∧ t.get 1 = some (.int .i64 now) ∧ t.get 5 = some v ∧ t.get 6 = some (pt b6) ∧ t.get 7 = some (.bool c) ∧ k = L1.length ∧ D ++ L1 = L ∧ (∀ x ∈ D, x.2 ≤ now) ∧ HAt σ' p F L1 ∧ SlAt σ' 32 2 encA v D ∧ (∀ b ∈ blks v, σ.next ≤ b) ∧ σ.next ≤ b6 ∧ b6 ∉ blks v ∧ VarAt σ' b6 [.string (L1.headD (⟨#[]⟩, 0)).1, .int .i64 (L1.headD (⟨#[]⟩, 0)).2] ∧ (L1 = [] → c = false) ∧ (∀ x l, L1 = x :: l → c = true) ∧ Same σ σ' F) L.length (by omega)
    ⟨_, L, [], .slice none 0 0, c, σ1.next, rfl, by simp [get_put, get_args], by simp [get_put, get_args], by simp [get_put, get_args], by simp [get_put], by simp [get_put], rfl, rfl, nofun, h3, .inl ⟨rfl, rfl⟩, nofun, hs1, nofun, hv3, hc0, hc1, hS⟩ ?_
  rintro k fr σ4 ⟨t, L1, D, v, c, b6, rfl, t0, t1, t5, t6, t7, rfl, hDL, hD, h4, hv, hvb, hb6, hb6v, hx, hc0, hc1, hS4⟩
  have hlen : D.length + L1.length = L.length := by rw [← hDL]; simp
  cases L1 with
  | nil =>
    have c0 := hc0 rfl
    subst c0
    simp (maxSteps := 2000000) only [B0, B1, B2, B3, B4, B5, B6, B7, Gd, extV, Nat.reduceLT, Nat.reduceEqDiff, Nat.reduceBEq, Nat.reduceAdd, Nat.reduceSub, Nat.reduceMul, ↓reduceIte, reduceCtorEq, if_true, if_false, ite_true, ite_false, Int.reduceLT, Int.reduceLE, ptr, callV_func Try.enters_23, allocV_zero Try.zero_32, Try.st_32, Try.fa_32_1, Try.ld_2, Try.mi_175, callV_func Try.enters_103, Try.ld_32, t0,  t1,  t5,  t6,  t7, rs_tmp (show Try.f24.results = #[.tmp 4] from rfl)]
    simp only [List.append_nil] at hDL
    subst hDL
    have ed : due now D = D := by have := List.takeWhile_append_of_pos (p := fun x : Al => decide (x.2 ≤ now)) (l₁ := D) (l₂ := []) (fun x hx => by simpa using hD x hx); simpa [due] using this
    have el : left now D = [] := by
      have := List.takeWhile_append_dropWhile (p := fun x : Al => decide (x.2 ≤ now)) (l := D)
      unfold due at ed
      rw [ed] at this
      unfold left
      simpa using this
    exact hQ σ4 v (by rw [el]; exact h4) (by rw [ed]; exact hv) hvb hS4
  | cons x l =>
    have c0 := hc1 x l rfl
    subst c0
    simp only [List.headD_cons] at hx
    have hx1 := hx.ld (o := 1) rfl
    have hxc : ldCells σ4 b6 0 2 = some [.string x.1, .int .i64 x.2] := hx.ldCells
    by_cases hle : x.2 ≤ now
    · simp at hlen
      simp (maxSteps := 2000000) only [B0, B1, B2, B3, B4, B5, B6, B7, Gd, extV, Nat.reduceLT, Nat.reduceEqDiff, Nat.reduceBEq, Nat.reduceAdd, Nat.reduceSub, Nat.reduceMul, ↓reduceIte, reduceCtorEq, if_true, if_false, ite_true, ite_false, Int.reduceLT, Int.reduceLE, ptr, callV_func Try.enters_23, allocV_zero Try.zero_32, Try.st_32, Try.fa_32_1, Try.ld_2, Try.mi_175, callV_func Try.enters_103, Try.ld_32, t0,  t1,  t5,  t6,  t7,  Try.fa_32_1,  Try.ld_2,  hx1,  hle,  b175,  Try.mi_175,  callV_func Try.enters_103, rs_tmp (show Try.f24.results = #[.tmp 4] from rfl)]
      refine hpop_h f.toFree2 h4 (by omega) (by omega) fun σ5 h5 hS5 => ?_
      have b6F : b6 ∉ F := fun q => by have := h.low b6 q; omega
      have vF : ∀ b ∈ blks v, b ∉ F := fun b hb q => by have := h.low b q; have := hvb b hb; omega
      have hx5 := hx.same hS5 b6F
      have hv5 := hv.same hS5 vF
      have hx5c : ldCells σ5 b6 0 2 = some [.string x.1, .int .i64 x.2] := hx5.ldCells
      have hn5 := hS5.next
      have hn4 := hS4.next
      have b6l := hx5.1
      obtain ⟨σ6, e6, hS6, hy6, hn6⟩ : ∃ σ6, (newCells σ5 32 [.string x.1, .int .i64 x.2]).2 = σ6 ∧ Same σ5 σ6 [] ∧ VarAt σ6 σ5.next [.string x.1, .int .i64 x.2] ∧ σ6.next = σ5.next + 1 := ⟨_, rfl, .newCells _ _ _ _, .new _ _ _ _, rfl⟩
      have hv6 := hv5.same hS6 nofun
      have hx6 := hx5.same hS6 nofun
      have h6 := h5.same hS6 nofun
      obtain ⟨av, cv, rfl, _⟩ := hv6.len
      obtain ⟨v7, σ7, t7', hv7, hS7, hb7⟩ := append_spec encOk hv6 [x] (by simp; omega)
      have t7'' : appendCells 32 2 av D.length cv 1 [.string x.1, .int .i64 x.2] σ6 = some (v7, σ7) := t7'
      have hx7 := hx6.same hS7 hb6v
      have hx7c : ldCells σ7 b6 0 2 = some [.string x.1, .int .i64 x.2] := hx7.ldCells
      have h7 := h6.same hS7 (fun b hb q => vF b q hb)
      have hn7 := hS7.next
      have bs : ∀ {τ : AHeap}, buildSliceV Try.prog 27 1 [(0, .agg #[.string x.1, .int .i64 x.2])] τ = some (.slice (some ⟨τ.next, 0, none⟩) 1 1, (newCells τ 32 [.string x.1, .int .i64 x.2]).2) := bs_one Try.underlying27 Try.elem_32 rfl rfl (by decide)
      have hf : firstCells' 2 1 σ6 (.slice (some ⟨σ5.next, 0, none⟩) 1 1) = some [.string x.1, .int .i64 x.2] := hy6.ldCells
      obtain ⟨σ8, e8, hS8, hv8, hn8⟩ : ∃ σ8, (newCells σ7 32 [.string ⟨#[]⟩, .int .i64 0]).2 = σ8 ∧ Same σ7 σ8 [] ∧ VarAt σ8 σ7.next [.string ⟨#[]⟩, .int .i64 0] ∧ σ8.next = σ7.next + 1 := ⟨_, rfl, .newCells _ _ _ _, .new _ _ _ _, rfl⟩
      obtain ⟨σ9, t9, hv9, hS9, hn9⟩ := hv8.store (vs' := [.string x.1, .int .i64 x.2]) rfl (by intro v hv; simp at hv; rcases hv with rfl | rfl <;> rfl)
      have fresh9 : ∀ b ∈ F, b ∉ [σ7.next] := fun b hb q => by have := h.low b hb; simp at q; omega
      have h9 := (h7.same hS8 nofun).same hS9 fresh9
      have v7l := hv7.lt
      have hv9' := (hv7.same hS8 nofun).same hS9 (fun b hb q => by have := v7l b hb; simp at q; omega)
      simp (maxSteps := 2000000) only [B0, B1, B2, B3, B4, B5, B6, B7, Gd, extV, Nat.reduceLT, Nat.reduceEqDiff, Nat.reduceBEq, Nat.reduceAdd, Nat.reduceSub, Nat.reduceMul, ↓reduceIte, reduceCtorEq, if_true, if_false, ite_true, ite_false, Int.reduceLT, Int.reduceLE, ptr, callV_func Try.enters_23, allocV_zero Try.zero_32, Try.st_32, Try.fa_32_1, Try.ld_2, Try.mi_175, callV_func Try.enters_103, Try.ld_32, bs,  e6,  hx5c,  append_eq Try.underlying27 Try.underlying27 Try.elem_32 hf,  t7'',  hx7c,  Try.ld_32,  Try.st_32,  Value.cells,  List.size_toArray,  allocV_zero Try.zero_32,  e8,  t9,  t0,  t1,  t5,  t6,  callV_func Try.enters_23, rs_tmp (show Try.f24.results = #[.tmp 4] from rfl)]
      refine next_run f h9 fun σ10 c' hS10 hc0' hc1' => ?_
      obtain ⟨σ11, t11, hv11, hS11, hn11⟩ := (hv9.same hS10 nofun).store (vs' := [.string (l.headD (⟨#[]⟩, 0)).1, .int .i64 (l.headD (⟨#[]⟩, 0)).2]) rfl (by intro v hv; simp at hv; rcases hv with rfl | rfl <;> rfl)
      simp (maxSteps := 2000000) only [B0, B1, B2, B3, B4, B5, B6, B7, Gd, extV, Nat.reduceLT, Nat.reduceEqDiff, Nat.reduceBEq, Nat.reduceAdd, Nat.reduceSub, Nat.reduceMul, ↓reduceIte, reduceCtorEq, if_true, if_false, ite_true, ite_false, Int.reduceLT, Int.reduceLE, ptr, callV_func Try.enters_23, allocV_zero Try.zero_32, Try.st_32, Try.fa_32_1, Try.ld_2, Try.mi_175, callV_func Try.enters_103, Try.ld_32, alV,  Try.st_32,  Value.cells,  List.size_toArray,  t11,  t0,  t1,  t5,  t6,  KInv_normal, rs_tmp (show Try.f24.results = #[.tmp 4] from rfl)]
      refine ⟨l.length, by simp, _, l, D ++ [x], v7, c', σ7.next, rfl, by simp [get_put, t0], by simp [get_put, t1], by simp [get_put], by simp [get_put], by simp [get_put], rfl, by rw [← hDL]; simp, ?_, ((h9.same hS10 nofun).same hS11 fresh9), ((hv9'.same hS10 nofun).same hS11 (fun b hb q => by have := v7l b hb; simp at q; omega)), ?_, by omega, fun q => by have := v7l _ q; omega, hv11, hc0', hc1', ?_⟩
      · intro y hy
        rcases List.mem_append.1 hy with hy | hy
        · exact hD y hy
        · simp at hy; subst hy; exact hle
      · intro b hb
        rcases hb7 b hb with q | q
        · exact hvb b q
        · omega
      · refine (((((((hS4.app hS5).app hS6).app hS7).app hS8).app hS9).app hS10).app hS11).old fun b hb => ?_
        simp at hb
        rcases hb with hb | hb | hb
        · exact .inl hb
        · exact .inr (hvb b hb)
        · exact .inr (by omega)
    · simp (maxSteps := 2000000) only [B0, B1, B2, B3, B4, B5, B6, B7, Gd, extV, Nat.reduceLT, Nat.reduceEqDiff, Nat.reduceBEq, Nat.reduceAdd, Nat.reduceSub, Nat.reduceMul, ↓reduceIte, reduceCtorEq, if_true, if_false, ite_true, ite_false, Int.reduceLT, Int.reduceLE, ptr, callV_func Try.enters_23, allocV_zero Try.zero_32, Try.st_32, Try.fa_32_1, Try.ld_2, Try.mi_175, callV_func Try.enters_103, Try.ld_32, t0,  t1,  t5,  t6,  t7,  Try.fa_32_1,  Try.ld_2,  hx1,  hle, rs_tmp (show Try.f24.results = #[.tmp 4] from rfl)]
      have ed : due now L = D := by
        unfold due; rw [← hDL, List.takeWhile_append_of_pos (fun x hx => by simpa using hD x hx), List.takeWhile_cons]; simp [hle]
      have el : left now L = x :: l := by
        unfold left; rw [← hDL, List.dropWhile_append_of_pos (fun x hx => by simpa using hD x hx), List.dropWhile_cons]; simp [hle]
      exact hQ σ4 v (by rw [el]; exact h4) (by rw [ed]; exact hv) hvb hS4
end Go.Proofs.Ytongccpmdndcgaa.Alm
end
/- Alarms: slices.SortFunc by their order, told by the library's contract. -/
section
set_option linter.all false
namespace Go.Proofs.Ytongccpmdndcgaa.Alm
open Go Go.AE Go.Hp Go.Sort Go.Proofs
set_option maxRecDepth 100000

def decA : List Value → Option (List Al)
  | [] => some []
  | .string s :: .int .i64 t :: r => match decA r with
    | some l => some ((s, t) :: l)
    | none => none
  | _ => none
theorem decA_spec : ∀ (cs : List Value) (L : List Al), decA cs = some L → cs = L.flatMap encA
  | [], L, h => by simp [decA] at h; subst h; rfl
  | .string s :: .int .i64 t :: r, L, h => by
    rw [decA] at h
    split at h
    · rename_i l hl
      cases h
      rw [decA_spec r l hl]; rfl
    · cases h
  | [.string _], _, h => by simp [decA] at h
  | .string _ :: .bool _ :: _, _, h => by simp [decA] at h
  | .string _ :: .float .. :: _, _, h => by simp [decA] at h
  | .string _ :: .complex .. :: _, _, h => by simp [decA] at h
  | .string _ :: .string _ :: _, _, h => by simp [decA] at h
  | .string _ :: .pointer _ :: _, _, h => by simp [decA] at h
  | .string _ :: .slice .. :: _, _, h => by simp [decA] at h
  | .string _ :: .map _ :: _, _, h => by simp [decA] at h
  | .string _ :: .chan _ :: _, _, h => by simp [decA] at h
  | .string _ :: .func .. :: _, _, h => by simp [decA] at h
  | .string _ :: .nilFunc :: _, _, h => by simp [decA] at h
  | .string _ :: .iface .. :: _, _, h => by simp [decA] at h
  | .string _ :: .nilIface :: _, _, h => by simp [decA] at h
  | .string _ :: .agg _ :: _, _, h => by simp [decA] at h
  | .string _ :: .tuple _ :: _, _, h => by simp [decA] at h
  | .string _ :: .int .i8 _ :: _, _, h => by simp [decA] at h
  | .string _ :: .int .i16 _ :: _, _, h => by simp [decA] at h
  | .string _ :: .int .i32 _ :: _, _, h => by simp [decA] at h
  | .string _ :: .int .u8 _ :: _, _, h => by simp [decA] at h
  | .string _ :: .int .u16 _ :: _, _, h => by simp [decA] at h
  | .string _ :: .int .u32 _ :: _, _, h => by simp [decA] at h
  | .string _ :: .int .u64 _ :: _, _, h => by simp [decA] at h
  | .bool _ :: _, _, h => by simp [decA] at h
  | .int .. :: _, _, h => by simp [decA] at h
  | .float .. :: _, _, h => by simp [decA] at h
  | .complex .. :: _, _, h => by simp [decA] at h
  | .pointer _ :: _, _, h => by simp [decA] at h
  | .slice .. :: _, _, h => by simp [decA] at h
  | .map _ :: _, _, h => by simp [decA] at h
  | .chan _ :: _, _, h => by simp [decA] at h
  | .func .. :: _, _, h => by simp [decA] at h
  | .nilFunc :: _, _, h => by simp [decA] at h
  | .iface .. :: _, _, h => by simp [decA] at h
  | .nilIface :: _, _, h => by simp [decA] at h
  | .agg _ :: _, _, h => by simp [decA] at h
  | .tuple _ :: _, _, h => by simp [decA] at h
theorem decA_of : ∀ L : List Al, decA (L.flatMap encA) = some L
  | [] => rfl
  | x :: L => by
    have := decA_of L
    simp only [List.flatMap_cons, encA, List.cons_append, List.nil_append, decA]
    rw [this]
/-- In order. -/
def srtA (L : List Al) : List Al := L.mergeSort fun x y => !(ltOf ordI) y x
theorem order_exact (x y : Al) (W : World) : Calls Try.prog 102 #[.agg (encA x).toArray, .agg (encA y).toArray] W fun e w' => e = .returned (.int .i64 (ordI x y)) ∧ ∃ q os', w' = Sort.grow (W.drewN q) os' := by
  obtain ⟨⟨v, σ'⟩, h, hv⟩ := order_run (gs := []) (orc := fun _ => none) (n := 0) (σ := nought) (x := x) (y := y) rfl rfl rfl rfl rfl rfl (Q := fun r => r.1 = .int .i64 (ordI x y)) fun _ _ => rfl
  simp only at hv
  subst hv
  exact plain_exact (by kernel_rfl) h (by intro z hz; simp at hz; rcases hz with rfl | rfl <;> rfl) rfl W
theorem ltOf_iff {x y : Al} : ltOf ordI x y = true ↔ lt x y := by unfold ltOf lt; simp
theorem ltOf_not {x y : Al} : ltOf ordI x y = false ↔ ¬ lt x y := by rw [← ltOf_iff]; simp
instance : Inhabited Al := ⟨(⟨#[]⟩, 0)⟩
theorem sort_told {D : Prop} {gs : List Nat} : Go.AE.Told D Try.prog gs 101 (sortFO 2 decA encA srtA 102) :=
  Go.AE.Told.sortFunc encOk (fun x v hv => by simp [encA] at hv; rcases hv with rfl | rfl <;> rfl) decA_spec (fun L => by simp [srtA])
    (fun p cap w => AnyF.slices_SortFunc_none Try.sortf101 p cap _ w)
    (fun blk off cap d w hH hb hs => AnyQ.slices_SortFunc_total Try.sortf101 2 Try.isAgg32 Try.sizeOf32 encA (fun _ => rfl) (fun x v hv => by simp [encA] at hv; rcases hv with rfl | rfl <;> rfl) ordI
      ⟨fun x => ltOf_not.2 (lt_irr x), fun x y z h1 h2 => ltOf_iff.2 (lt_trans (ltOf_iff.1 h1) (ltOf_iff.1 h2)), fun x y z h1 h2 => ltOf_not.2 (ordOk.tr _ _ _ (ltOf_not.1 h2) (ltOf_not.1 h1))⟩
      102 #[] blk off cap d w (enters_of Try.func102 (by kernel_rfl) rfl) (fun _ _ _ _ x y => order_exact x y _) hH hb hs (fun x y h1 h2 => lt_tri (ltOf_not.1 h1) (ltOf_not.1 h2)))
end Go.Proofs.Ytongccpmdndcgaa.Alm
end
/- Alarms: All and Copy. -/
section
set_option linter.all false
namespace Go.Proofs.Ytongccpmdndcgaa.Alm
open Go Go.AE Go.Hp Go.Sort Go.Proofs
set_option maxRecDepth 100000
variable {gs : List Nat} {orc : Orc} {n : Nat} {σ : AHeap} {Q : Value × AHeap → Prop}

theorem W_orc {P : Program} {f : FuncId} {g : List Value → AHeap → Option (Value × AHeap)} {args : List Value} (h : orc f = some g) : W (acall P gs orc (n + 1) f args σ) Q = W (g args σ) Q := by
  rw [acall]; simp only [h]
structure Free4 (orc : Orc) : Prop extends Free3 orc where
  o101 : orc 101 = some (sortFO 2 decA encA srtA 102)
  o104 : orc 104 = some cloneO
theorem srtA_eq {A L : List Al} (hp : A.Perm L) (hs : L.Pairwise lt) : srtA A = L := by
  have h1 : (srtA A).Perm L := (List.mergeSort_perm A _).trans hp
  have h2 : (srtA A).Pairwise fun a b => ¬ lt b a := by
    have := List.pairwise_mergeSort (le := fun x y => !(ltOf ordI) y x) (fun a b c h1 h2 => by rw [Bool.not_eq_true', ltOf_not] at *; exact ordOk.tr _ _ _ h1 h2) (fun a b => by
      by_cases q : lt b a
      · have := ordOk.asy _ _ q
        simp [ltOf_iff.2 q, ltOf_not.2 this]
      · simp [ltOf_not.2 q]) A
    exact this.imp fun {a b} h => by simpa [ltOf_iff, ltOf_not] using h
  refine List.Perm.eq_of_pairwise (le := fun a b => ¬ lt b a) (fun a b _ _ q1 q2 => lt_tri q2 q1) h2 (hs.imp fun {a b} h => ordOk.asy _ _ h) h1
theorem clone_run (ho : orc 100 = none) {v : Value} {A : List Al} (h : SlAt σ 32 2 encA v A) (hl : A.length ≤ 1048576)
    (hQ : ∀ σ' v', SlAt σ' 32 2 encA v' A → (∀ b ∈ blks v', σ.next ≤ b) → Same σ σ' [] → Q (v', σ')) : W (acall Try.prog gs orc (n + 1) 100 [v] σ) Q := by
  obtain ⟨a, c, rfl, hc⟩ := h.len
  cases a with
  | none =>
    have hA : A = [] ∧ c = 0 := by
      rcases h with ⟨e, q⟩ | ⟨a, j, e, _, _⟩ | ⟨b, o, cap, g, e, _⟩
      · injection e with _ e1 e2; exact ⟨q, e2⟩
      · cases e
      · cases e
    obtain ⟨rfl, rfl⟩ := hA
    rw [W_start (m := 8) (keep := []) Try.func100 rfl (by kernel_rfl) (by kernel_rfl) (by first | rfl | assumption | exact f.h100) (by rfl)]
    simp (maxSteps := 2000000) only [B0, B1, B2, B3, B4, B5, B6, B7, Gd, extV, Nat.reduceLT, Nat.reduceEqDiff, Nat.reduceBEq, Nat.reduceAdd, Nat.reduceSub, Nat.reduceMul, ↓reduceIte, reduceCtorEq, if_true, if_false, ite_true, ite_false, Int.reduceLT, Int.reduceLE, ptr, bin_nilss Try.underlying27, rs_tmp (show Try.f100.results = #[.tmp 2] from rfl)]
    exact hQ σ _ (.inl ⟨rfl, rfl⟩) nofun (.refl _ _)
  | some a =>
    obtain ⟨σ1, e1, hS1, hn1⟩ : ∃ σ1, (newCells σ 32 []).2 = σ1 ∧ Same σ σ1 [] ∧ σ1.next = σ.next + 1 := ⟨_, rfl, .newCells _ _ _ _, rfl⟩
    have h1 := h.same hS1 nofun
    have hz : SlAt σ1 32 2 encA (.slice (some ⟨σ.next, 0, none⟩) 0 0) [] := by rw [← e1]; exact SlAt.new encOk σ 32 false []
    obtain ⟨v2, σ2, t2, hv2, hS2, hb2⟩ := append_spec encOk hz A (by simpa using hl)
    have hf := h1.first encOk
    have bs : ∀ {τ : AHeap}, buildSliceV Try.prog 27 0 [] τ = some (.slice (some ⟨τ.next, 0, none⟩) 0 0, (newCells τ 32 []).2) := buildSlice_of Try.underlying27 Try.elem_32 (by decide) rfl
    have t2' : appendCells 32 2 (some ⟨σ.next, 0, none⟩) 0 0 A.length (A.flatMap encA) σ1 = some (v2, σ2) := t2
    rw [W_start (m := 8) (keep := []) Try.func100 rfl (by kernel_rfl) (by kernel_rfl) (by first | rfl | assumption | exact f.h100) (by rfl)]
    simp (maxSteps := 2000000) only [B0, B1, B2, B3, B4, B5, B6, B7, Gd, extV, Nat.reduceLT, Nat.reduceEqDiff, Nat.reduceBEq, Nat.reduceAdd, Nat.reduceSub, Nat.reduceMul, ↓reduceIte, reduceCtorEq, if_true, if_false, ite_true, ite_false, Int.reduceLT, Int.reduceLE, ptr, bin_nils Try.underlying27,  bs,  e1,  append_eq Try.underlying27 Try.underlying27 Try.elem_32 hf,  t2', rs_tmp (show Try.f100.results = #[.tmp 2] from rfl)]
    refine hQ σ2 v2 hv2 (fun b hb => ?_) ((hS1.app hS2).old fun b hb => by simp [blks] at hb; exact .inr (by omega))
    rcases hb2 b hb with q | q
    · simp [blks] at q; omega
    · omega
theorem all_run (f : Free4 orc) {p : Nat} {F : List Nat} {L : List Al} (h : HAt σ p F L) (hN : L.length ≤ 1048576)
    (hQ : ∀ σ' v, SlAt σ' 32 2 encA v L → (∀ b ∈ blks v, σ.next ≤ b) → Same σ σ' [] → Q (v, σ')) : W (acall Try.prog gs orc (n + 3) 19 [pt p] σ) Q := by
  obtain ⟨A, h1, hh, hp⟩ := h.ex
  obtain ⟨sv, m, M, h2, h3, rfl⟩ := h1.ex
  have hl := hp.length_eq
  rw [W_start (m := 14) (keep := []) Try.func19 rfl (by kernel_rfl) (by kernel_rfl) (by first | rfl | assumption | exact f.h19) (by rfl)]
  simp (maxSteps := 2000000) only [B0, B1, B2, B3, B4, B5, B6, B7, Gd, extV, Nat.reduceLT, Nat.reduceEqDiff, Nat.reduceBEq, Nat.reduceAdd, Nat.reduceSub, Nat.reduceMul, ↓reduceIte, reduceCtorEq, if_true, if_false, ite_true, ite_false, Int.reduceLT, Int.reduceLE, ptr, callV_func Try.enters_99, Try.fa_58_0, Try.ld_27, callV_func Try.enters_100, callV_func Try.enters_101, callV_func Try.enters_99,  none_h f.toFree h,  Try.fa_58_0,  Try.ld_27,  h2.ld0,  callV_func Try.enters_100, rs_tmp (show Try.f19.results = #[.tmp 2] from rfl)]
  refine clone_run f.h100 h2.row (by omega) fun σ1 v1 hv1 hb1 hS1 => ?_
  simp (maxSteps := 2000000) only [B0, B1, B2, B3, B4, B5, B6, B7, Gd, extV, Nat.reduceLT, Nat.reduceEqDiff, Nat.reduceBEq, Nat.reduceAdd, Nat.reduceSub, Nat.reduceMul, ↓reduceIte, reduceCtorEq, if_true, if_false, ite_true, ite_false, Int.reduceLT, Int.reduceLE, ptr, callV_func Try.enters_99, Try.fa_58_0, Try.ld_27, callV_func Try.enters_100, callV_func Try.enters_101, callV_func Try.enters_101,  W_orc f.o101, rs_tmp (show Try.f19.results = #[.tmp 2] from rfl)]
  obtain ⟨a, c, rfl, hac⟩ := hv1.len
  have e3 := srtA_eq hp h.srt
  cases hAl : A.length with
  | zero =>
    have hA : A = [] := List.eq_nil_of_length_eq_zero hAl
    subst hA
    have hL : L = [] := List.eq_nil_of_length_eq_zero (by rw [← hl]; rfl)
    subst hL
    simp (maxSteps := 2000000) only [B0, B1, B2, B3, B4, B5, B6, B7, Gd, extV, Nat.reduceLT, Nat.reduceEqDiff, Nat.reduceBEq, Nat.reduceAdd, Nat.reduceSub, Nat.reduceMul, ↓reduceIte, reduceCtorEq, if_true, if_false, ite_true, ite_false, Int.reduceLT, Int.reduceLE, ptr, callV_func Try.enters_99, Try.fa_58_0, Try.ld_27, callV_func Try.enters_100, callV_func Try.enters_101, sortFO,  Nat.beq_refl,  Bool.and_self,  show (Nat.ble 0 4611686018427387903) = true from rfl,  Bool.and_true, rs_tmp (show Try.f19.results = #[.tmp 2] from rfl)]
    exact hQ σ1 _ hv1 hb1 hS1
  | succ k =>
    obtain ⟨b, o, cap, g, e, hcap, hb, hr⟩ := hv1.at_ (List.getElem?_eq_getElem (show 0 < A.length by omega))
    injection e with e e2 e4
    subst e e4
    have hall := hr.all encOk
    have h0 := hr.take 0
    obtain ⟨σ2, t2, hn2, hoth, hr2⟩ := h0.puts encOk (srtA A) (by simp [srtA]; omega)
    simp only [List.take_zero, List.length_nil, Nat.zero_mul, Nat.add_zero, List.nil_append] at t2 hr2
    have hble : (k + 1).ble 4611686018427387903 = true := Nat.ble_eq_true_of_le (by omega)
    rw [hAl] at hall
    have key : sortFO 2 decA encA srtA 102 [.slice (some ⟨b, o, none⟩) (k + 1) c, .func (.func 102) #[] #[]] σ1 = some (.tuple #[], σ2) := by
      unfold sortFO
      simp only [show Nat.beq 102 102 = true from rfl, hble, Bool.and_self, hall, decA_of, t2]
    rw [W_eq key]
    have hS2 : Same σ1 σ2 [b] := ⟨by rw [hn2]; exact Nat.le_refl _, fun c _ hc => hoth c (by simpa using hc)⟩
    have hbn := hb1 b (by simp [blks])
    simp (maxSteps := 2000000) only [B0, B1, B2, B3, B4, B5, B6, B7, Gd, extV, Nat.reduceLT, Nat.reduceEqDiff, Nat.reduceBEq, Nat.reduceAdd, Nat.reduceSub, Nat.reduceMul, ↓reduceIte, reduceCtorEq, if_true, if_false, ite_true, ite_false, Int.reduceLT, Int.reduceLE, ptr, callV_func Try.enters_99, Try.fa_58_0, Try.ld_27, callV_func Try.enters_100, callV_func Try.enters_101, rs_tmp (show Try.f19.results = #[.tmp 2] from rfl)]
    rw [e3] at hr2
    refine hQ σ2 _ (.inr (.inr ⟨b, o, c, g, by rw [← hl, hAl], by omega, by rw [hn2]; exact hb, hr2⟩)) (fun x hx => by simp [blks] at hx; omega) ((hS1.app hS2).old fun x hx => by simp at hx; exact .inr (by omega))
theorem copy_run (f : Free4 orc) {p : Nat} {F : List Nat} {L : List Al} (h : HAt σ p F L) (hN : L.length ≤ 1048576)
    (hQ : ∀ σ' p' F', HAt σ' p' F' L → (∀ b ∈ F', σ.next ≤ b) → Same σ σ' [] → Q (pt p', σ')) : W (acall Try.prog gs orc (n + 3) 26 [pt p] σ) Q := by
  obtain ⟨A, h1, hh, hp⟩ := h.ex
  obtain ⟨sv, m, M, h2, h3, rfl⟩ := h1.ex
  have hl := hp.length_eq
  rw [W_start (m := 17) (keep := [3]) Try.func26 rfl (by kernel_rfl) (by kernel_rfl) (by first | rfl | assumption | exact f.h26) (by rfl)]
  simp (maxSteps := 2000000) only [B0, B1, B2, B3, B4, B5, B6, B7, Gd, extV, Nat.reduceLT, Nat.reduceEqDiff, Nat.reduceBEq, Nat.reduceAdd, Nat.reduceSub, Nat.reduceMul, ↓reduceIte, reduceCtorEq, if_true, if_false, ite_true, ite_false, Int.reduceLT, Int.reduceLE, ptr, callV_func Try.enters_99, Try.fa_58_0, Try.ld_27, callV_func Try.enters_100, Try.fa_58_1, Try.ld_56, callV_func Try.enters_104, callV_func Try.enters_99,  none_h f.toFree h,  Try.fa_58_0,  Try.fa_58_1,  Try.ld_27,  Try.ld_56,  h2.ld0,  h2.ld1,  callV_func Try.enters_100,  callV_func Try.enters_104,  W_orc f.o104,  Value.cells, rs_tmp (show Try.f26.results = #[.tmp 2] from rfl)]
  refine Eq.mpr (W_retold (ps := [(4, 8)]) ?h1 ?h2 (by simp)) ?h3
  case h1 => kernel_rfl
  case h2 => kernel_rfl
  simp (maxSteps := 2000000) only [B0, B1, B2, B3, B4, B5, B6, B7, Gd, extV, Nat.reduceLT, Nat.reduceEqDiff, Nat.reduceBEq, Nat.reduceAdd, Nat.reduceSub, Nat.reduceMul, ↓reduceIte, reduceCtorEq, if_true, if_false, ite_true, ite_false, Int.reduceLT, Int.reduceLE, ptr, callV_func Try.enters_99, Try.fa_58_0, Try.ld_27, callV_func Try.enters_100, Try.fa_58_1, Try.ld_56, callV_func Try.enters_104, callV_func Try.enters_99,  none_h f.toFree h,  Try.fa_58_0,  Try.fa_58_1,  Try.ld_27,  Try.ld_56,  h2.ld0,  h2.ld1,  callV_func Try.enters_100,  callV_func Try.enters_104,  W_orc f.o104,  Value.cells, rs_tmp (show Try.f26.results = #[.tmp 2] from rfl)]
  refine clone_run f.h100 h2.row (by omega) fun σ1 v1 hv1 hb1 hS1 => ?_
  have h1' := h2.same0 hS1
  obtain ⟨o, t2, hm2⟩ := clone_spec h1'.map
  obtain ⟨a, c, rfl, hac⟩ := hv1.len
  have b58' : build' Try.prog 58 [(0, .slice a A.length c), (1, .map (some σ1.next))] = some (.agg #[.slice a A.length c, .map (some σ1.next)]) := by kernel_rfl
  simp (maxSteps := 2000000) only [B0, B1, B2, B3, B4, B5, B6, B7, Gd, extV, Nat.reduceLT, Nat.reduceEqDiff, Nat.reduceBEq, Nat.reduceAdd, Nat.reduceSub, Nat.reduceMul, ↓reduceIte, reduceCtorEq, if_true, if_false, ite_true, ite_false, Int.reduceLT, Int.reduceLE, ptr, callV_func Try.enters_99, Try.fa_58_0, Try.ld_27, callV_func Try.enters_100, Try.fa_58_1, Try.ld_56, callV_func Try.enters_104, h1'.ld1,  t2,  b58',  AE.next_new, callV_func Try.enters_99,  none_h f.toFree h,  Try.fa_58_0,  Try.fa_58_1,  Try.ld_27,  Try.ld_56,  h2.ld0,  h2.ld1,  callV_func Try.enters_100,  callV_func Try.enters_104,  W_orc f.o104,  Value.cells, rs_tmp (show Try.f26.results = #[.tmp 2] from rfl)]
  have hn1 := hS1.next
  have hS : Same σ1 (newCells (σ1.new o).2 58 [.slice a A.length c, .map (some σ1.next)]).2 [] := (Same.new _ _).trans (.newCells _ _ _ _) nofun
  have vlt := hv1.lt
  refine hQ _ (σ1.next + 1) ((σ1.next + 1) :: σ1.next :: blks (.slice a A.length c)) (HAt.of ⟨⟨_, σ1.next, M, ⟨?_, ?_, by omega, fun q => by have := vlt _ q; omega, fun q => by have := vlt _ q; omega, ?_, hv1.same hS nofun, ?_⟩, h3, rfl⟩, h1.keys⟩ hh hp h.srt h.vals) (fun b hb => ?_) (hS1.trans hS nofun)
  · simp [next_newCells, AE.next_new]
  · simp [next_newCells, AE.next_new]; omega
  · exact ⟨_, _, _, by rw [get_newCells, AE.next_new, if_pos rfl], by rw [Tr.get_of]; rfl, by rw [Tr.get_of]; rfl⟩
  · exact hm2.of_get (by rw [get_newCells, AE.next_new, if_neg (by omega)])
  · simp only [List.mem_cons] at hb
    rcases hb with rfl | rfl | hb
    · omega
    · omega
    · exact hb1 b hb
end Go.Proofs.Ytongccpmdndcgaa.Alm
end
/- The law's alarms grown by calls. -/
section
set_option linter.all false
namespace Go.Proofs.Ytongccpmdndcgaa.Alm
open Go Go.AE Go.Hp Go.Sort Go.Proofs
set_option maxRecDepth 100000
variable {gs : List Nat} {orc : Orc} {n : Nat} {σ : AHeap} {Q : Value × AHeap → Prop}

abbrev Cl := Int × ByteArray × Int
def encC (x : Cl) : List Value := [.int .i64 x.1, .string x.2.1, .int .i64 x.2.2]
theorem encCOk : Enc 3 encC := ⟨fun _ => rfl, fun x v hv => by simp [encC] at hv; rcases hv with rfl | rfl | rfl <;> rfl, by omega⟩
/-- A map of times that tells what the alarms tell. -/
structure MapL (M : Prs) (L : List Al) : Prop where
  get : ∀ k, mget M k = (getA k L).map fun t => .int .i64 t
  len : M.length = L.length
theorem getA_some {k : ByteArray} {L : List Al} : (getA k L).isSome = true ↔ ∃ y ∈ L, y.1 = k := by
  constructor
  · intro h
    refine Classical.byContradiction fun q => ?_
    rw [getA_none (fun y hy e => q ⟨y, hy, e⟩)] at h
    cases h
  · rintro ⟨y, hy, e⟩
    cases q : getA k L with
    | some v => rfl
    | none =>
      unfold getA at q
      rw [Option.map_eq_none_iff, List.find?_eq_none] at q
      exact absurd e (by simpa using q y hy)
theorem getA_perm {k : ByteArray} {L M : List Al} (h : KD L) (p : L.Perm M) : getA k L = getA k M := by
  by_cases q : ∃ y ∈ L, y.1 = k
  · obtain ⟨y, hy, rfl⟩ := q
    rw [getA_mem h hy, getA_mem (h.perm p) (p.mem_iff.1 hy)]
  · rw [getA_none (fun y hy e => q ⟨y, hy, e⟩), getA_none (fun y hy e => q ⟨y, p.mem_iff.2 hy, e⟩)]
theorem KD.rem {k : ByteArray} {L : List Al} (h : KD L) : KD (remA k L) := h.sublist (List.filter_sublist.map _)
theorem KD.set {k : ByteArray} {t : Int} {L : List Al} (h : KD L) : KD (setA k t L) := by
  have h1 : KD ((k, t) :: remA k L) := List.nodup_cons.2 ⟨fun q => by obtain ⟨y, hy, e⟩ := List.mem_map.1 q; exact (mem_remA.1 hy).2 e, KD.rem h⟩
  exact KD.perm h1 (insA_perm (k, t) (remA k L)).symm
theorem getA_rem {k s : ByteArray} {L : List Al} (h : KD L) : getA s (remA k L) = if s = k then none else getA s L := by
  split
  · rename_i e; subst e; exact getA_none fun y hy => (mem_remA.1 hy).2
  · rename_i e
    by_cases q : ∃ y ∈ L, y.1 = s
    · obtain ⟨y, hy, rfl⟩ := q
      rw [getA_mem h hy, getA_mem h.rem (mem_remA.2 ⟨hy, e⟩)]
    · rw [getA_none (fun y hy e => q ⟨y, hy, e⟩), getA_none (fun y hy e => q ⟨y, (mem_remA.1 hy).1, e⟩)]
theorem getA_set {k s : ByteArray} {t : Int} {L : List Al} (h : KD L) : getA s (setA k t L) = if s = k then some t else getA s L := by
  have hk : KD ((k, t) :: remA k L) := KD.perm h.set (insA_perm _ _)
  rw [getA_perm h.set (insA_perm _ _)]
  split
  · rename_i e; subst e; exact getA_mem hk (x := (s, t)) (by simp)
  · rename_i e
    have : getA s ((k, t) :: remA k L) = getA s (remA k L) := by
      unfold getA; rw [List.find?_cons]; simp only [decide_eq_false (fun q : k = s => e q.symm)]
    rw [this, getA_rem h, if_neg e]
theorem rem_len {k : ByteArray} {L : List Al} (h : KD L) : (remA k L).length + (if (getA k L).isSome then 1 else 0) = L.length := by
  by_cases q : ∃ y ∈ L, y.1 = k
  · obtain ⟨y, hy, rfl⟩ := q
    obtain ⟨A, B, rfl⟩ := List.append_of_mem hy
    have hp : (y :: (A ++ B)).Perm (A ++ y :: B) := List.perm_middle.symm
    have h2 := remA_cons_self (h.perm hp.symm)
    have h3 := (remA_perm (k := y.1) hp).length_eq
    rw [h2] at h3
    rw [getA_mem h hy]
    simp at h3 ⊢
    omega
  · rw [remA_not (fun y hy e => q ⟨y, hy, e⟩), getA_none (fun y hy e => q ⟨y, hy, e⟩)]; simp
theorem set_len {k : ByteArray} {t : Int} {L : List Al} (h : KD L) : (setA k t L).length = if (getA k L).isSome then L.length else L.length + 1 := by
  have h1 := (insA_perm (k, t) (remA k L)).length_eq
  have h2 := rem_len (k := k) h
  unfold setA
  rw [h1, List.length_cons]
  split <;> rename_i q <;> simp [q] at h2 <;> omega
theorem MapL.set {M : Prs} {L : List Al} (h : MapL M L) (hk : KD L) (k : ByteArray) (t : Int) : MapL (mput M k (.int .i64 t)) (setA k t L) := by
  refine ⟨fun s => ?_, ?_⟩
  · rw [mget_mput, getA_set hk]
    split
    · rfl
    · exact h.get s
  · rw [len_mput, set_len hk, h.get, h.len]
    cases getA k L <;> rfl
theorem MapL.rem {M : Prs} {L : List Al} (h : MapL M L) (hn : (M.map (·.1)).Nodup) (hk : KD L) (k : ByteArray) : MapL (mdel M k) (remA k L) := by
  refine ⟨fun s => ?_, ?_⟩
  · rw [mget_mdel, getA_rem hk]
    split
    · rfl
    · exact h.get s
  · have h2 := rem_len (k := k) hk
    by_cases q : (getA k L).isSome = true
    · have := len_mdel hn (s := k) (mget_some.1 (by rw [h.get]; cases hg : getA k L with | none => rw [hg] at q; cases q | some v => rfl))
      rw [if_pos q] at h2
      have := h.len
      omega
    · rw [if_neg q] at h2
      rw [mdel_not (mget_none.1 (by rw [h.get]; cases hg : getA k L with | none => rfl | some v => rw [hg] at q; exact absurd rfl q)), h.len]
      omega
end Go.Proofs.Ytongccpmdndcgaa.Alm
end
/- The law's alarms grown by calls: the run. -/
section
set_option linter.all false
namespace Go.Proofs.Ytongccpmdndcgaa.Alm
open Go Go.AE Go.Hp Go.Sort Go.Proofs
set_option maxRecDepth 100000
variable {gs : List Nat} {orc : Orc} {n : Nat} {σ : AHeap} {Q : Value × AHeap → Prop}

def key (k : ByteArray) : ByteArray := cut (min 70 k.size) k
theorem key_size (k : ByteArray) : (key k).size ≤ 70 := by unfold key; rw [cut_size]; omega
/-- What a call does to the alarms. -/
def stepL (L : List Al) (x : Cl) : List Al :=
  if x.1 = 0 ∨ x.1 = 1 ∨ x.1 = 2 then (if bad (key x.2.1) x.2.2 then L else setA (key x.2.1) x.2.2 L)
  else if x.1 = 3 then remA (key x.2.1) L
  else if x.1 = 4 then left x.2.2 L
  else L
def growL (cl : List Cl) : List Al := (cl.take 100).foldl stepL []
theorem left_len (t : Int) (L : List Al) : (left t L).length ≤ L.length := (List.dropWhile_sublist _).length_le
theorem stepL_len (L : List Al) (x : Cl) (h : KD L) : (stepL L x).length ≤ L.length + 1 := by
  unfold stepL
  split
  · split
    · omega
    · rw [set_len h]; split <;> omega
  · split
    · have := rem_len (k := key x.2.1) h; omega
    · split
      · have := left_len x.2.2 L; omega
      · omega
theorem due_left (t : Int) (L : List Al) : due t L ++ left t L = L := List.takeWhile_append_dropWhile
/-- What holds between two calls. -/
structure GInv (σ σ' : AHeap) (p m : Nat) (F : List Nat) (M : Prs) (L : List Al) : Prop where
  h : HAt σ' p F L
  mp : MapAt σ' m M
  mF : m ∉ F
  mlt : m < σ'.next
  low : ∀ b ∈ F, σ.next ≤ b
  mlow : σ.next ≤ m
  same : Same σ σ' []
theorem GInv.step {σ σ1 σ2 : AHeap} {p m : Nat} {F G : List Nat} {M : Prs} {L : List Al} (g : GInv σ σ1 p m F M L) (hs : Same σ1 σ2 G) (hG : ∀ b ∈ G, σ.next ≤ b ∧ b ∉ F ∧ b ≠ m) : GInv σ σ2 p m F M L :=
  ⟨g.h.same hs fun b hb q => (hG b q).2.1 hb,
   g.mp.of_get (hs.get m g.mlt fun q => (hG m q).2.2 rfl), g.mF, Nat.lt_of_lt_of_le g.mlt hs.next, g.low, g.mlow,
   (g.same.app hs).old fun b hb => by simp at hb; exact .inr (hG b hb).1⟩
theorem GInv.setM {σ σ1 : AHeap} {p m : Nat} {F : List Nat} {M M' : Prs} {L : List Al} {o : AObj} (g : GInv σ σ1 p m F M L) (h2 : MapAt (σ1.set m o) m M') : GInv σ (σ1.set m o) p m F M' L := by
  have hS := Same.set σ1 m o
  exact ⟨g.h.same hS fun b hb q => g.mF (by simp at q; exact q ▸ hb), h2, g.mF, Nat.lt_of_lt_of_le g.mlt hS.next, g.low, g.mlow, (g.same.app hS).old fun b hb => by simp at hb; subst hb; exact .inr g.mlow⟩
theorem GInv.call {σ σ1 σ2 : AHeap} {p m : Nat} {F F' : List Nat} {M : Prs} {L L' : List Al} (g : GInv σ σ1 p m F M L) (hh : HAt σ2 p F' L') (hF : ∀ b ∈ F', b ∈ F ∨ σ1.next ≤ b) (hS : Same σ1 σ2 F) : GInv σ σ2 p m F' M L' := by
  have hn := g.same.next
  refine ⟨hh, g.mp.of_get (hS.get m g.mlt g.mF), fun q => ?_, Nat.lt_of_lt_of_le g.mlt hS.next, fun b hb => ?_, g.mlow, (g.same.app hS).old fun b hb => by simp at hb; exact .inr (g.low b hb)⟩
  · rcases hF m q with q | q
    · exact g.mF q
    · have := g.mlt; omega
  · rcases hF b hb with q | q
    · exact g.low b q
    · omega
/-- A variable beside. -/
structure VarB (σ σ' : AHeap) (m : Nat) (F : List Nat) (b : Nat) (vs : List Value) : Prop where
  v : VarAt σ' b vs
  low : σ.next ≤ b
  bF : b ∉ F
  bm : b ≠ m
theorem GInv.var {σ σ1 : AHeap} {p m : Nat} {F : List Nat} {M : Prs} {L : List Al} (g : GInv σ σ1 p m F M L) (t : Nat) (zs : List Value) :
    ∃ σ2, (newCells σ1 t zs).2 = σ2 ∧ GInv σ σ2 p m F M L ∧ VarB σ σ2 m F σ1.next zs ∧ Same σ1 σ2 [] := by
  have hS : Same σ1 (newCells σ1 t zs).2 [] := .newCells _ _ _ _
  exact ⟨_, rfl, g.step hS nofun, ⟨.new _ _ _ _, g.same.next, fun q => by have := g.h.low _ q; omega, fun q => by have := g.mlt; omega⟩, hS⟩
theorem GInv.put {σ σ1 : AHeap} {p m b : Nat} {F : List Nat} {M : Prs} {L : List Al} {vs vs' : List Value} (g : GInv σ σ1 p m F M L) (v : VarB σ σ1 m F b vs) (hl : vs'.length = vs.length) (hs : ∀ v ∈ vs', single v = true) :
    ∃ σ2, stCells σ1 b 0 vs' = some σ2 ∧ GInv σ σ2 p m F M L ∧ VarB σ σ2 m F b vs' ∧ Same σ1 σ2 [b] := by
  obtain ⟨σ2, h1, h2, h3, h4⟩ := v.v.store hl hs
  exact ⟨σ2, h1, g.step h3 (fun c hc => by simp at hc; subst hc; exact ⟨v.low, v.bF, v.bm⟩), ⟨h2, v.low, v.bF, v.bm⟩, h3⟩
theorem GInv.putAt {σ σ1 : AHeap} {p m b i : Nat} {F : List Nat} {M : Prs} {L : List Al} {vs : List Value} (g : GInv σ σ1 p m F M L) (v : VarB σ σ1 m F b vs) (hi : i < vs.length) {u : Value} (hs : single u = true) :
    ∃ σ2, stCells σ1 b i [u] = some σ2 ∧ GInv σ σ2 p m F M L ∧ VarB σ σ2 m F b (vs.set i u) ∧ Same σ1 σ2 [b] := by
  obtain ⟨σ2, h1, h2, h3, h4⟩ := v.v.storeAt hi hs
  exact ⟨σ2, h1, g.step h3 (fun c hc => by simp at hc; subst hc; exact ⟨v.low, v.bF, v.bm⟩), ⟨h2, v.low, v.bF, v.bm⟩, h3⟩
theorem VarB.step {σ σ1 σ2 : AHeap} {m b : Nat} {F G F' : List Nat} {vs : List Value} (v : VarB σ σ1 m F b vs) (hs : Same σ1 σ2 G) (hG : b ∉ G) (hF : ∀ b ∈ F', b ∈ F ∨ σ1.next ≤ b) : VarB σ σ2 m F' b vs :=
  ⟨v.v.same hs hG, v.low, fun q => by rcases hF b q with q | q; exact v.bF q; have := v.v.1; omega, v.bm⟩
end Go.Proofs.Ytongccpmdndcgaa.Alm
end
/- The law's alarms grown by calls: the run. -/
section
set_option linter.all false
namespace Go.Proofs.Ytongccpmdndcgaa.Alm
open Go Go.AE Go.Hp Go.Sort Go.Proofs
set_option maxRecDepth 100000
variable {gs : List Nat} {orc : Orc} {n : Nat} {σ : AHeap} {Q : Value × AHeap → Prop}

structure Free5 (orc : Orc) : Prop extends Free4 orc where
  h18 : orc 18 = none
theorem stepL_kd {L : List Al} (x : Cl) (h : KD L) : KD (stepL L x) := by
  unfold stepL
  split
  · split
    · exact h
    · exact KD.set h
  · split
    · exact KD.rem h
    · split
      · exact h.sublist ((List.dropWhile_sublist _).map _)
      · exact h
theorem grown_run (f : Free5 orc) {v : Value} {cl : List Cl} (hv : SlR σ 3 encC v cl) (hn : 101 ≤ n)
    (hQ : ∀ σ' p m F M, GInv σ σ' p m F M (growL cl) → MapL M (growL cl) → Q (.tuple #[pt p, .map (some m)], σ')) :
    W (acall Try.prog gs orc (n + 11) 18 [v] σ) Q := by
  obtain ⟨a0, c0, rfl⟩ := hv.len
  rw [W_start (m := 75) (keep := []) Try.func18 rfl (by kernel_rfl) (by kernel_rfl) (by first | rfl | assumption | exact f.h18) (by rfl)]
  simp (maxSteps := 2000000) only [B0, B1, B2, B3, B4, B5, B6, B7, Gd, extV, Nat.reduceLT, Nat.reduceEqDiff, Nat.reduceBEq, Nat.reduceAdd, Nat.reduceSub, Nat.reduceMul, ↓reduceIte, reduceCtorEq, if_true, if_false, ite_true, ite_false, Int.reduceLT, Int.reduceLE, ptr, callV_func Try.enters_27, Try.len_22, Try.ia_22, Try.ld_47, allocV_zero Try.zero_47, Try.st_47, Try.fa_47_1, Try.ld_9, Try.len_9, Try.st_9, Try.fa_47_0, Try.ld_3, Try.fa_47_2, Try.ld_2, callV_func Try.enters_28, callV_func Try.enters_30, callV_func Try.enters_24, Try.len_27, Try.ia_27, Try.ld_32, allocV_zero Try.zero_32, Try.st_32, Try.fa_32_0, callV_func Try.enters_27, rs_two (show Try.f18.results = #[.tmp 2,  .tmp 3] from rfl)]
  refine new_run f.toFree3 fun σ1 p F hp hF hS1 => ?_
  obtain ⟨σ2, e2⟩ : ∃ σ2, (σ1.new (.map [] 0 false)).2 = σ2 := ⟨_, rfl⟩
  have hS2 : Same σ1 σ2 [] := e2 ▸ Same.new _ _
  have hm2 : MapAt σ2 σ1.next [] := e2 ▸ MapAt.nil σ1
  have hn2 : σ2.next = σ1.next + 1 := e2 ▸ rfl
  have hn1 := hS1.next
  have g0 : GInv σ σ2 p σ1.next F [] [] := ⟨hp.same hS2 nofun, hm2, fun q => by have := hp.low _ q; omega, by omega, hF, hn1, hS1.trans hS2 nofun⟩
  have ml0 : MapL [] [] := ⟨fun k => rfl, rfl⟩
  simp (maxSteps := 2000000) only [B0, B1, B2, B3, B4, B5, B6, B7, Gd, extV, Nat.reduceLT, Nat.reduceEqDiff, Nat.reduceBEq, Nat.reduceAdd, Nat.reduceSub, Nat.reduceMul, ↓reduceIte, reduceCtorEq, if_true, if_false, ite_true, ite_false, Int.reduceLT, Int.reduceLE, ptr, callV_func Try.enters_27, Try.len_22, Try.ia_22, Try.ld_47, allocV_zero Try.zero_47, Try.st_47, Try.fa_47_1, Try.ld_9, Try.len_9, Try.st_9, Try.fa_47_0, Try.ld_3, Try.fa_47_2, Try.ld_2, callV_func Try.enters_28, callV_func Try.enters_30, callV_func Try.enters_24, Try.len_27, Try.ia_27, Try.ld_32, allocV_zero Try.zero_32, Try.st_32, Try.fa_32_0, Try.len_22,  e2, rs_two (show Try.f18.results = #[.tmp 2,  .tmp 3] from rfl)]
  refine W_inv (fun k fr σ' => ∃ (t : Tr Value) (i : Nat) (F : List Nat) (M : Prs) (L : List Al), fr = ⟨75, t⟩ ∧ t.get 4 = some (pt p) ∧ t.get 5 = some (.map (some σ1.next)) ∧ t.get 12 = some (.slice a0 cl.length c0) ∧ t.get 13 = some (.int .i64 (cl.length : Int)) ∧ t.get 14 = some (.int .i64 (i : Int)) ∧ k + i = 100 ∧ i ≤ cl.length ∧ (cl.take i).foldl stepL [] = L ∧ L.length ≤ i ∧ MapL M L ∧ GInv σ σ' p σ1.next F M L) 100 (by omega)
    ⟨_, 0, F, [], [], rfl, by simp [get_put, get_args], by simp [get_put, get_args], by simp [get_put, get_args], by simp [get_put], by simp [get_put], rfl, by omega, by simp, by simp, ml0, g0⟩ ?_
  rintro k fr σ3 ⟨t, i, F3, M, L, rfl, t4, t5, t12, t13, t14, hk, hi, hL, hLl, ml, g⟩
  by_cases hlt : i < cl.length
  · have hx := List.getElem?_eq_getElem hlt
    generalize cl[i] = x at hx
    obtain ⟨w, ky, tm⟩ := x
    obtain ⟨b, o, cap, e, hb, hld⟩ := hv.at_ hx
    injection e with e e1 e3
    subst e e3
    have hld3 : ldCells σ3 b (o + i * 3) 3 = some [.int .i64 w, .string ky, .int .i64 tm] := by rw [g.same.ldCells hb nofun]; exact hld
    have hlt' : (i : Int) < (cl.length : Int) := by omega
    obtain ⟨σ4, e4, g4, v4, hS4⟩ := g.var 47 [(.int .i64 (0)), (.string ⟨#[]⟩), (.int .i64 (0))]
    obtain ⟨σ5, e5, g5, v5, hS5⟩ := g4.put v4 (vs' := [.int .i64 w, .string ky, .int .i64 tm]) rfl (by intro v hv; simp at hv; rcases hv with rfl | rfl | rfl <;> rfl)
    by_cases h100 : i = 100
    · have h100' : ((i : Int) = 100) = True := by simp; omega
      have hfin : growL cl = L := by unfold growL; rw [← hL, h100]
      rw [← hfin] at g5 ml
      simp (maxSteps := 2000000) only [B0, B1, B2, B3, B4, B5, B6, B7, Gd, extV, Nat.reduceLT, Nat.reduceEqDiff, Nat.reduceBEq, Nat.reduceAdd, Nat.reduceSub, Nat.reduceMul, ↓reduceIte, reduceCtorEq, if_true, if_false, ite_true, ite_false, Int.reduceLT, Int.reduceLE, ptr, callV_func Try.enters_27, Try.len_22, Try.ia_22, Try.ld_47, allocV_zero Try.zero_47, Try.st_47, Try.fa_47_1, Try.ld_9, Try.len_9, Try.st_9, Try.fa_47_0, Try.ld_3, Try.fa_47_2, Try.ld_2, callV_func Try.enters_28, callV_func Try.enters_30, callV_func Try.enters_24, Try.len_27, Try.ia_27, Try.ld_32, allocV_zero Try.zero_32, Try.st_32, Try.fa_32_0, t4,  t5,  t12,  t13,  t14,  hlt',  hlt,  Try.ia_22,  Try.ld_47,  hld3,  Value.cells,  List.size_toArray,  allocV_zero Try.zero_47,  e4,  Try.st_47,  e5,  h100', rs_two (show Try.f18.results = #[.tmp 2,  .tmp 3] from rfl)]
      exact hQ _ _ _ _ _ g5 ml
    · have h100' : ((i : Int) = 100) = False := by simp; omega
      have hmin : (if (70 : Int) < (ky.size : Int) then (70 : Int) else (ky.size : Int)) = ((min 70 ky.size : Nat) : Int) := by split <;> omega
      have hc1 := v5.v.ld (o := 1) rfl
      have hsl : ∀ {τ : AHeap}, sliceOp Try.prog 9 (.string ky) none (some (.int .i64 ((min 70 ky.size : Nat) : Int))) none τ = some (.string (key ky)) := slice_str Try.underlying9 (by omega)
      obtain ⟨σ6, e6, g6, v6, hS6⟩ := g5.putAt v5 (i := 1) (u := .string (key ky)) (by simp) rfl
      have w0 := v6.v.ld (o := 0) rfl
      have w1 := v6.v.ld (o := 1) rfl
      have w2 := v6.v.ld (o := 2) rfl
      have hkd : KD L := g6.h.kd
      have hstep : (cl.take (i + 1)).foldl stepL [] = stepL L (w, ky, tm) := by rw [List.take_add_one, hx, Option.toList_some, List.foldl_append, hL]; rfl
      have hslen := stepL_len L (w, ky, tm) hkd
      have hks := key_size ky
      have hi1 : IntKind.i64.wrap ((i : Int) + 1) = ((i + 1 : Nat) : Int) := wrap64 (by omega) (by omega)
      by_cases c012 : w = 0 ∨ w = 1 ∨ w = 2
      · have hst : stepL L (w, ky, tm) = if bad (key ky) tm then L else setA (key ky) tm L := by unfold stepL; exact if_pos c012
        rw [hst] at hslen
        have fin : ∀ {Q' : Value × AHeap → Prop}, (∀ σ' F' , GInv σ σ' p σ1.next F' M (if bad (key ky) tm then L else setA (key ky) tm L) → VarB σ σ' σ1.next F' σ3.next [.int .i64 w, .string (key ky), .int .i64 tm] → Q' (.int .i64 (if bad (key ky) tm then 1 else 0), σ')) → W (acall Try.prog gs orc (n + 10) 28 [pt p, .string (key ky), .int .i64 tm] σ6) Q' := fun hq =>
          set_run f.toFree3 g6.h (key ky) tm (by omega) (by omega) fun σ7 F7 h7 hF7 hS7 => hq σ7 F7 (g6.call h7 hF7 hS7) (v6.step hS7 v6.bF hF7)
        by_cases hbad : bad (key ky) tm
        · simp only [if_pos hbad] at fin hst hslen
          rw [hst] at hstep
          rcases c012 with rfl | rfl | rfl
          all_goals simp (maxSteps := 2000000) only [B0, B1, B2, B3, B4, B5, B6, B7, Gd, extV, Nat.reduceLT, Nat.reduceEqDiff, Nat.reduceBEq, Nat.reduceAdd, Nat.reduceSub, Nat.reduceMul, ↓reduceIte, reduceCtorEq, if_true, if_false, ite_true, ite_false, Int.reduceLT, Int.reduceLE, ptr, callV_func Try.enters_27, Try.len_22, Try.ia_22, Try.ld_47, allocV_zero Try.zero_47, Try.st_47, Try.fa_47_1, Try.ld_9, Try.len_9, Try.st_9, Try.fa_47_0, Try.ld_3, Try.fa_47_2, Try.ld_2, callV_func Try.enters_28, callV_func Try.enters_30, callV_func Try.enters_24, Try.len_27, Try.ia_27, Try.ld_32, allocV_zero Try.zero_32, Try.st_32, Try.fa_32_0, callV_func Try.enters_28, t4,  t5,  t12,  t13,  t14,  hlt',  hlt,  Try.ia_22,  Try.ld_47,  hld3,  Value.cells,  List.size_toArray,  allocV_zero Try.zero_47,  e4,  Try.st_47,  e5,  h100',  Try.fa_47_0,  Try.fa_47_1,  Try.fa_47_2,  Try.ld_9,  hc1,  Try.len_9,  min_int,  hmin,  hsl,  Try.st_9,  e6,  Try.ld_3,  Try.ld_2,  w0,  w1,  w2,  hi1,  KInv_normal,  Int.reduceEq, rs_two (show Try.f18.results = #[.tmp 2,  .tmp 3] from rfl)]
          all_goals refine fin fun σ7 F7 g7 v7 => ?_
          all_goals simp (maxSteps := 2000000) only [B0, B1, B2, B3, B4, B5, B6, B7, Gd, extV, Nat.reduceLT, Nat.reduceEqDiff, Nat.reduceBEq, Nat.reduceAdd, Nat.reduceSub, Nat.reduceMul, ↓reduceIte, reduceCtorEq, if_true, if_false, ite_true, ite_false, Int.reduceLT, Int.reduceLE, ptr, callV_func Try.enters_27, Try.len_22, Try.ia_22, Try.ld_47, allocV_zero Try.zero_47, Try.st_47, Try.fa_47_1, Try.ld_9, Try.len_9, Try.st_9, Try.fa_47_0, Try.ld_3, Try.fa_47_2, Try.ld_2, callV_func Try.enters_28, callV_func Try.enters_30, callV_func Try.enters_24, Try.len_27, Try.ia_27, Try.ld_32, allocV_zero Try.zero_32, Try.st_32, Try.fa_32_0, t4,  t5,  t12,  t13,  t14,  hlt',  hlt,  Try.ia_22,  Try.ld_47,  hld3,  Value.cells,  List.size_toArray,  allocV_zero Try.zero_47,  e4,  Try.st_47,  e5,  h100',  Try.fa_47_0,  Try.fa_47_1,  Try.fa_47_2,  Try.ld_9,  hc1,  Try.len_9,  min_int,  hmin,  hsl,  Try.st_9,  e6,  Try.ld_3,  Try.ld_2,  w0,  w1,  w2,  hi1,  KInv_normal,  Int.reduceEq, rs_two (show Try.f18.results = #[.tmp 2,  .tmp 3] from rfl)]
          all_goals exact ⟨99 - i, by omega, _, i + 1, F7, M, L, rfl, by simp [get_put, t4], by simp [get_put, t5], by simp [get_put, t12], by simp [get_put, t13], by simp [get_put], by omega, hlt, hstep, by omega, ml, g7⟩
        · simp only [if_neg hbad] at fin hst hslen
          rw [hst] at hstep
          rcases c012 with rfl | rfl | rfl
          all_goals simp (maxSteps := 2000000) only [B0, B1, B2, B3, B4, B5, B6, B7, Gd, extV, Nat.reduceLT, Nat.reduceEqDiff, Nat.reduceBEq, Nat.reduceAdd, Nat.reduceSub, Nat.reduceMul, ↓reduceIte, reduceCtorEq, if_true, if_false, ite_true, ite_false, Int.reduceLT, Int.reduceLE, ptr, callV_func Try.enters_27, Try.len_22, Try.ia_22, Try.ld_47, allocV_zero Try.zero_47, Try.st_47, Try.fa_47_1, Try.ld_9, Try.len_9, Try.st_9, Try.fa_47_0, Try.ld_3, Try.fa_47_2, Try.ld_2, callV_func Try.enters_28, callV_func Try.enters_30, callV_func Try.enters_24, Try.len_27, Try.ia_27, Try.ld_32, allocV_zero Try.zero_32, Try.st_32, Try.fa_32_0, callV_func Try.enters_28, t4,  t5,  t12,  t13,  t14,  hlt',  hlt,  Try.ia_22,  Try.ld_47,  hld3,  Value.cells,  List.size_toArray,  allocV_zero Try.zero_47,  e4,  Try.st_47,  e5,  h100',  Try.fa_47_0,  Try.fa_47_1,  Try.fa_47_2,  Try.ld_9,  hc1,  Try.len_9,  min_int,  hmin,  hsl,  Try.st_9,  e6,  Try.ld_3,  Try.ld_2,  w0,  w1,  w2,  hi1,  KInv_normal,  Int.reduceEq, rs_two (show Try.f18.results = #[.tmp 2,  .tmp 3] from rfl)]
          all_goals refine fin fun σ7 F7 g7 v7 => ?_
          all_goals obtain ⟨o, t8, h8⟩ := put_spec Try.underlying24 Try.underlying9 g7.mp (s := key ky) (by omega) (.int .i64 tm)
          all_goals have x1 := v7.v.ld (o := 1) rfl
          all_goals have x2 := v7.v.ld (o := 2) rfl
          all_goals simp (maxSteps := 2000000) only [B0, B1, B2, B3, B4, B5, B6, B7, Gd, extV, Nat.reduceLT, Nat.reduceEqDiff, Nat.reduceBEq, Nat.reduceAdd, Nat.reduceSub, Nat.reduceMul, ↓reduceIte, reduceCtorEq, if_true, if_false, ite_true, ite_false, Int.reduceLT, Int.reduceLE, ptr, callV_func Try.enters_27, Try.len_22, Try.ia_22, Try.ld_47, allocV_zero Try.zero_47, Try.st_47, Try.fa_47_1, Try.ld_9, Try.len_9, Try.st_9, Try.fa_47_0, Try.ld_3, Try.fa_47_2, Try.ld_2, callV_func Try.enters_28, callV_func Try.enters_30, callV_func Try.enters_24, Try.len_27, Try.ia_27, Try.ld_32, allocV_zero Try.zero_32, Try.st_32, Try.fa_32_0, x1,  x2,  t8, t4,  t5,  t12,  t13,  t14,  hlt',  hlt,  Try.ia_22,  Try.ld_47,  hld3,  Value.cells,  List.size_toArray,  allocV_zero Try.zero_47,  e4,  Try.st_47,  e5,  h100',  Try.fa_47_0,  Try.fa_47_1,  Try.fa_47_2,  Try.ld_9,  hc1,  Try.len_9,  min_int,  hmin,  hsl,  Try.st_9,  e6,  Try.ld_3,  Try.ld_2,  w0,  w1,  w2,  hi1,  KInv_normal,  Int.reduceEq, rs_two (show Try.f18.results = #[.tmp 2,  .tmp 3] from rfl)]
          all_goals exact ⟨99 - i, by omega, _, i + 1, F7, _, _, rfl, by simp [get_put, t4], by simp [get_put, t5], by simp [get_put, t12], by simp [get_put, t13], by simp [get_put], by omega, hlt, hstep, by omega, ml.set hkd _ _, g7.setM h8⟩
      · have n0 : (w = 0) = False := by simp; omega
        have n1 : (w = 1) = False := by simp; omega
        have n2 : (w = 2) = False := by simp; omega
        by_cases c3 : w = 3
        · have hst : stepL L (w, ky, tm) = remA (key ky) L := by unfold stepL; rw [if_neg c012, if_pos c3]
          rw [hst] at hslen hstep
          subst c3
          simp (maxSteps := 2000000) only [B0, B1, B2, B3, B4, B5, B6, B7, Gd, extV, Nat.reduceLT, Nat.reduceEqDiff, Nat.reduceBEq, Nat.reduceAdd, Nat.reduceSub, Nat.reduceMul, ↓reduceIte, reduceCtorEq, if_true, if_false, ite_true, ite_false, Int.reduceLT, Int.reduceLE, ptr, callV_func Try.enters_27, Try.len_22, Try.ia_22, Try.ld_47, allocV_zero Try.zero_47, Try.st_47, Try.fa_47_1, Try.ld_9, Try.len_9, Try.st_9, Try.fa_47_0, Try.ld_3, Try.fa_47_2, Try.ld_2, callV_func Try.enters_28, callV_func Try.enters_30, callV_func Try.enters_24, Try.len_27, Try.ia_27, Try.ld_32, allocV_zero Try.zero_32, Try.st_32, Try.fa_32_0, callV_func Try.enters_30, t4,  t5,  t12,  t13,  t14,  hlt',  hlt,  Try.ia_22,  Try.ld_47,  hld3,  Value.cells,  List.size_toArray,  allocV_zero Try.zero_47,  e4,  Try.st_47,  e5,  h100',  Try.fa_47_0,  Try.fa_47_1,  Try.fa_47_2,  Try.ld_9,  hc1,  Try.len_9,  min_int,  hmin,  hsl,  Try.st_9,  e6,  Try.ld_3,  Try.ld_2,  w0,  w1,  w2,  hi1,  KInv_normal,  Int.reduceEq, rs_two (show Try.f18.results = #[.tmp 2,  .tmp 3] from rfl)]
          refine drop_run f.toFree3 g6.h (key ky) (by omega) (by omega) fun σ7 h7 hS7 => ?_
          have g7 := g6.call h7 (fun b hb => .inl hb) hS7
          have v7 := v6.step (F' := F3) hS7 v6.bF (fun b hb => .inl hb)
          by_cases hs : (getA (key ky) L).isSome = true
          · obtain ⟨o, t8, h8⟩ := del_spec Try.underlying24 Try.underlying9 g7.mp (key ky)
            have x1 := v7.v.ld (o := 1) rfl
            simp (maxSteps := 2000000) only [B0, B1, B2, B3, B4, B5, B6, B7, Gd, extV, Nat.reduceLT, Nat.reduceEqDiff, Nat.reduceBEq, Nat.reduceAdd, Nat.reduceSub, Nat.reduceMul, ↓reduceIte, reduceCtorEq, if_true, if_false, ite_true, ite_false, Int.reduceLT, Int.reduceLE, ptr, callV_func Try.enters_27, Try.len_22, Try.ia_22, Try.ld_47, allocV_zero Try.zero_47, Try.st_47, Try.fa_47_1, Try.ld_9, Try.len_9, Try.st_9, Try.fa_47_0, Try.ld_3, Try.fa_47_2, Try.ld_2, callV_func Try.enters_28, callV_func Try.enters_30, callV_func Try.enters_24, Try.len_27, Try.ia_27, Try.ld_32, allocV_zero Try.zero_32, Try.st_32, Try.fa_32_0, hs,  x1,  builtin_del t8, t4,  t5,  t12,  t13,  t14,  hlt',  hlt,  Try.ia_22,  Try.ld_47,  hld3,  Value.cells,  List.size_toArray,  allocV_zero Try.zero_47,  e4,  Try.st_47,  e5,  h100',  Try.fa_47_0,  Try.fa_47_1,  Try.fa_47_2,  Try.ld_9,  hc1,  Try.len_9,  min_int,  hmin,  hsl,  Try.st_9,  e6,  Try.ld_3,  Try.ld_2,  w0,  w1,  w2,  hi1,  KInv_normal,  Int.reduceEq, rs_two (show Try.f18.results = #[.tmp 2,  .tmp 3] from rfl)]
            exact ⟨99 - i, by omega, _, i + 1, F3, _, _, rfl, by simp [get_put, t4], by simp [get_put, t5], by simp [get_put, t12], by simp [get_put, t13], by simp [get_put], by omega, hlt, hstep, by omega, ml.rem g7.mp.nodup hkd _, g7.setM h8⟩
          · have hs' : (getA (key ky) L).isSome = false := by simpa using hs
            have hr : remA (key ky) L = L := remA_not fun y hy e => hs (getA_some.2 ⟨y, hy, e⟩)
            have hs'' : ((getA (key ky) L).isSome = true) = False := by rw [hs']; simp
            simp (maxSteps := 2000000) only [B0, B1, B2, B3, B4, B5, B6, B7, Gd, extV, Nat.reduceLT, Nat.reduceEqDiff, Nat.reduceBEq, Nat.reduceAdd, Nat.reduceSub, Nat.reduceMul, ↓reduceIte, reduceCtorEq, if_true, if_false, ite_true, ite_false, Int.reduceLT, Int.reduceLE, ptr, callV_func Try.enters_27, Try.len_22, Try.ia_22, Try.ld_47, allocV_zero Try.zero_47, Try.st_47, Try.fa_47_1, Try.ld_9, Try.len_9, Try.st_9, Try.fa_47_0, Try.ld_3, Try.fa_47_2, Try.ld_2, callV_func Try.enters_28, callV_func Try.enters_30, callV_func Try.enters_24, Try.len_27, Try.ia_27, Try.ld_32, allocV_zero Try.zero_32, Try.st_32, Try.fa_32_0, hs'', t4,  t5,  t12,  t13,  t14,  hlt',  hlt,  Try.ia_22,  Try.ld_47,  hld3,  Value.cells,  List.size_toArray,  allocV_zero Try.zero_47,  e4,  Try.st_47,  e5,  h100',  Try.fa_47_0,  Try.fa_47_1,  Try.fa_47_2,  Try.ld_9,  hc1,  Try.len_9,  min_int,  hmin,  hsl,  Try.st_9,  e6,  Try.ld_3,  Try.ld_2,  w0,  w1,  w2,  hi1,  KInv_normal,  Int.reduceEq, rs_two (show Try.f18.results = #[.tmp 2,  .tmp 3] from rfl)]
            exact ⟨99 - i, by omega, _, i + 1, F3, M, _, rfl, by simp [get_put, t4], by simp [get_put, t5], by simp [get_put, t12], by simp [get_put, t13], by simp [get_put], by omega, hlt, hstep, by omega, by rw [hr]; exact ml, g7⟩
        · have n3 : (w = 3) = False := by simp; omega
          by_cases c4 : w = 4
          · have hst : stepL L (w, ky, tm) = left tm L := by unfold stepL; rw [if_neg c012, if_neg c3, if_pos c4]
            rw [hst] at hslen hstep
            subst c4
            simp (maxSteps := 2000000) only [B0, B1, B2, B3, B4, B5, B6, B7, Gd, extV, Nat.reduceLT, Nat.reduceEqDiff, Nat.reduceBEq, Nat.reduceAdd, Nat.reduceSub, Nat.reduceMul, ↓reduceIte, reduceCtorEq, if_true, if_false, ite_true, ite_false, Int.reduceLT, Int.reduceLE, ptr, callV_func Try.enters_27, Try.len_22, Try.ia_22, Try.ld_47, allocV_zero Try.zero_47, Try.st_47, Try.fa_47_1, Try.ld_9, Try.len_9, Try.st_9, Try.fa_47_0, Try.ld_3, Try.fa_47_2, Try.ld_2, callV_func Try.enters_28, callV_func Try.enters_30, callV_func Try.enters_24, Try.len_27, Try.ia_27, Try.ld_32, allocV_zero Try.zero_32, Try.st_32, Try.fa_32_0, callV_func Try.enters_24, t4,  t5,  t12,  t13,  t14,  hlt',  hlt,  Try.ia_22,  Try.ld_47,  hld3,  Value.cells,  List.size_toArray,  allocV_zero Try.zero_47,  e4,  Try.st_47,  e5,  h100',  Try.fa_47_0,  Try.fa_47_1,  Try.fa_47_2,  Try.ld_9,  hc1,  Try.len_9,  min_int,  hmin,  hsl,  Try.st_9,  e6,  Try.ld_3,  Try.ld_2,  w0,  w1,  w2,  hi1,  KInv_normal,  Int.reduceEq, rs_two (show Try.f18.results = #[.tmp 2,  .tmp 3] from rfl)]
            refine due_run f.toFree3 g6.h tm (by omega) (by omega) fun σ7 vD h7 hvD hbD hS7 => ?_
            have g7 := g6.call h7 (fun b hb => .inl hb) hS7
            obtain ⟨aD, cD, rfl, _⟩ := hvD.len
            have hDL := due_left tm L
            have hDl : (due tm L).length ≤ L.length := by have := congrArg List.length hDL; simp at this; omega
            have hDm : ∀ b ∈ blks (.slice aD (due tm L).length cD), b ∉ [σ1.next] := fun b hb q => by have := hbD b hb; have := g6.mlt; simp at q; omega
            simp (maxSteps := 2000000) only [B0, B1, B2, B3, B4, B5, B6, B7, Gd, extV, Nat.reduceLT, Nat.reduceEqDiff, Nat.reduceBEq, Nat.reduceAdd, Nat.reduceSub, Nat.reduceMul, ↓reduceIte, reduceCtorEq, if_true, if_false, ite_true, ite_false, Int.reduceLT, Int.reduceLE, ptr, callV_func Try.enters_27, Try.len_22, Try.ia_22, Try.ld_47, allocV_zero Try.zero_47, Try.st_47, Try.fa_47_1, Try.ld_9, Try.len_9, Try.st_9, Try.fa_47_0, Try.ld_3, Try.fa_47_2, Try.ld_2, callV_func Try.enters_28, callV_func Try.enters_30, callV_func Try.enters_24, Try.len_27, Try.ia_27, Try.ld_32, allocV_zero Try.zero_32, Try.st_32, Try.fa_32_0, Try.len_27, t4,  t5,  t12,  t13,  t14,  hlt',  hlt,  Try.ia_22,  Try.ld_47,  hld3,  Value.cells,  List.size_toArray,  allocV_zero Try.zero_47,  e4,  Try.st_47,  e5,  h100',  Try.fa_47_0,  Try.fa_47_1,  Try.fa_47_2,  Try.ld_9,  hc1,  Try.len_9,  min_int,  hmin,  hsl,  Try.st_9,  e6,  Try.ld_3,  Try.ld_2,  w0,  w1,  w2,  hi1,  KInv_normal,  Int.reduceEq, rs_two (show Try.f18.results = #[.tmp 2,  .tmp 3] from rfl)]
            refine W_inv (fun k fr σ' => ∃ (t : Tr Value) (j : Nat) (M : Prs), fr = ⟨75, t⟩ ∧ t.get 4 = some (pt p) ∧ t.get 5 = some (.map (some σ1.next)) ∧ t.get 12 = some (.slice (some ⟨b, o, none⟩) cl.length c0) ∧ t.get 13 = some (.int .i64 (cl.length : Int)) ∧ t.get 14 = some (.int .i64 (i : Int)) ∧ t.get 62 = some (.slice aD (due tm L).length cD) ∧ t.get 63 = some (.int .i64 ((due tm L).length : Int)) ∧ t.get 64 = some (.int .i64 (j : Int)) ∧ k + j = (due tm L).length ∧ MapL M (L.drop j) ∧ GInv σ σ' p σ1.next F3 M (left tm L) ∧ Same σ7 σ' [σ1.next]) (due tm L).length (by omega)
              ⟨_, 0, M, rfl, by simp [get_put, t4], by simp [get_put, t5], by simp [get_put, t12], by simp [get_put, t13], by simp [get_put, t14], by simp [get_put], by simp [get_put], by simp [get_put], rfl, ml, g7, .refl _ _⟩ ?_
            rintro k2 fr σ8 ⟨t', j, M8, rfl, t4', t5', t12', t13', t14', t62', t63', t64', hk2, ml8, g8, hS8⟩
            by_cases hj : j < (due tm L).length
            · have hy := List.getElem?_eq_getElem hj
              generalize (due tm L)[j] = y at hy
              obtain ⟨b2, o2, cap2, e, hb2, hld2⟩ := (hvD.toR encOk).at_ hy
              injection e with e e8 e9
              subst e e9
              have hld8 : ldCells σ8 b2 (o2 + j * 2) 2 = some [.string y.1, .int .i64 y.2] := by rw [hS8.ldCells hb2 (hDm b2 (by simp [blks]))]; exact hld2
              have hj' : (j : Int) < ((due tm L).length : Int) := by omega
              obtain ⟨σ9, e9, g9, v9, hS9⟩ := g8.var 32 [.string ⟨#[]⟩, .int .i64 0]
              obtain ⟨σ10, e10, g10, v10, hS10⟩ := g9.put v9 (vs' := [.string y.1, .int .i64 y.2]) rfl (by intro v hv; simp at hv; rcases hv with rfl | rfl <;> rfl)
              have y0 := v10.v.ld (o := 0) rfl
              obtain ⟨ob, t11, h11⟩ := del_spec Try.underlying24 Try.underlying9 g10.mp y.1
              have hj1 : IntKind.i64.wrap ((j : Int) + 1) = ((j + 1 : Nat) : Int) := wrap64 (by omega) (by omega)
              have hLj : L.drop j = y :: L.drop (j + 1) := by
                have hjl : j < L.length := by omega
                rw [List.drop_eq_getElem_cons hjl]
                congr 1
                have : L[j]? = some y := by
                  have h' : (due tm L ++ left tm L)[j]? = some y := by rw [List.getElem?_append_left hj]; exact hy
                  rw [hDL] at h'; exact h'
                rw [List.getElem?_eq_getElem hjl] at this
                exact Option.some.inj this
              have hkd2 : KD (L.drop j) := hkd.sublist ((List.drop_sublist _ _).map _)
              have hrem : remA y.1 (L.drop j) = L.drop (j + 1) := by rw [hLj]; exact remA_cons_self (hLj ▸ hkd2)
              simp (maxSteps := 2000000) only [B0, B1, B2, B3, B4, B5, B6, B7, Gd, extV, Nat.reduceLT, Nat.reduceEqDiff, Nat.reduceBEq, Nat.reduceAdd, Nat.reduceSub, Nat.reduceMul, ↓reduceIte, reduceCtorEq, if_true, if_false, ite_true, ite_false, Int.reduceLT, Int.reduceLE, ptr, callV_func Try.enters_27, Try.len_22, Try.ia_22, Try.ld_47, allocV_zero Try.zero_47, Try.st_47, Try.fa_47_1, Try.ld_9, Try.len_9, Try.st_9, Try.fa_47_0, Try.ld_3, Try.fa_47_2, Try.ld_2, callV_func Try.enters_28, callV_func Try.enters_30, callV_func Try.enters_24, Try.len_27, Try.ia_27, Try.ld_32, allocV_zero Try.zero_32, Try.st_32, Try.fa_32_0, t4',  t5',  t12',  t13',  t14',  t62',  t63',  t64',  hj',  hj,  y0,  builtin_del t11,  Try.ia_27,  Try.ld_32,  Try.st_32,  Try.fa_32_0,  Try.ld_9,  hld8,  e9,  e10,  allocV_zero Try.zero_32,  hj1,  KInv_normal,  Value.cells,  List.size_toArray, rs_two (show Try.f18.results = #[.tmp 2,  .tmp 3] from rfl)]
              exact ⟨(due tm L).length - (j + 1), by omega, _, j + 1, _, rfl, by simp [get_put, t4'], by simp [get_put, t5'], by simp [get_put, t12'], by simp [get_put, t13'], by simp [get_put, t14'], by simp [get_put, t62'], by simp [get_put, t63'], by simp [get_put], by omega, by rw [← hrem]; exact ml8.rem g10.mp.nodup hkd2 _, g10.setM h11, (((hS8.app hS9).app hS10).app (Same.set _ σ1.next ob)).old fun c hc => by simp at hc; have := hS8.next; rcases hc with hc | hc | hc; exact .inl (by simp [hc]); exact .inr (by omega); exact .inl (by simp [hc])⟩
            · have hj' : ((j : Int) < ((due tm L).length : Int)) = False := by simp; omega
              simp (maxSteps := 2000000) only [B0, B1, B2, B3, B4, B5, B6, B7, Gd, extV, Nat.reduceLT, Nat.reduceEqDiff, Nat.reduceBEq, Nat.reduceAdd, Nat.reduceSub, Nat.reduceMul, ↓reduceIte, reduceCtorEq, if_true, if_false, ite_true, ite_false, Int.reduceLT, Int.reduceLE, ptr, callV_func Try.enters_27, Try.len_22, Try.ia_22, Try.ld_47, allocV_zero Try.zero_47, Try.st_47, Try.fa_47_1, Try.ld_9, Try.len_9, Try.st_9, Try.fa_47_0, Try.ld_3, Try.fa_47_2, Try.ld_2, callV_func Try.enters_28, callV_func Try.enters_30, callV_func Try.enters_24, Try.len_27, Try.ia_27, Try.ld_32, allocV_zero Try.zero_32, Try.st_32, Try.fa_32_0, t4',  t5',  t12',  t13',  t14',  t62',  t63',  t64',  hj',  hi1,  KInv_normal, rs_two (show Try.f18.results = #[.tmp 2,  .tmp 3] from rfl)]
              have hje : j = (due tm L).length := by omega
              have hdr : (due tm L ++ left tm L).drop (due tm L).length = left tm L := List.drop_left
              rw [hDL, ← hje] at hdr
              rw [hdr] at ml8
              exact ⟨99 - i, by omega, _, i + 1, F3, _, _, rfl, by simp [get_put, t4'], by simp [get_put, t5'], by simp [get_put, t12'], by simp [get_put, t13'], by simp [get_put], by omega, hlt, hstep, by omega, ml8, g8⟩
          · have n4 : (w = 4) = False := by simp; omega
            have hst : stepL L (w, ky, tm) = L := by unfold stepL; rw [if_neg c012, if_neg c3, if_neg c4]
            rw [hst] at hslen hstep
            simp (maxSteps := 2000000) only [B0, B1, B2, B3, B4, B5, B6, B7, Gd, extV, Nat.reduceLT, Nat.reduceEqDiff, Nat.reduceBEq, Nat.reduceAdd, Nat.reduceSub, Nat.reduceMul, ↓reduceIte, reduceCtorEq, if_true, if_false, ite_true, ite_false, Int.reduceLT, Int.reduceLE, ptr, callV_func Try.enters_27, Try.len_22, Try.ia_22, Try.ld_47, allocV_zero Try.zero_47, Try.st_47, Try.fa_47_1, Try.ld_9, Try.len_9, Try.st_9, Try.fa_47_0, Try.ld_3, Try.fa_47_2, Try.ld_2, callV_func Try.enters_28, callV_func Try.enters_30, callV_func Try.enters_24, Try.len_27, Try.ia_27, Try.ld_32, allocV_zero Try.zero_32, Try.st_32, Try.fa_32_0, t4,  t5,  t12,  t13,  t14,  hlt',  hlt,  Try.ia_22,  Try.ld_47,  hld3,  Value.cells,  List.size_toArray,  allocV_zero Try.zero_47,  e4,  Try.st_47,  e5,  h100',  Try.fa_47_0,  Try.fa_47_1,  Try.fa_47_2,  Try.ld_9,  hc1,  Try.len_9,  min_int,  hmin,  hsl,  Try.st_9,  e6,  Try.ld_3,  Try.ld_2,  w0,  w1,  w2,  hi1,  KInv_normal,  n0,  n1,  n2,  n3,  n4, rs_two (show Try.f18.results = #[.tmp 2,  .tmp 3] from rfl)]
            exact ⟨99 - i, by omega, _, i + 1, F3, M, _, rfl, by simp [get_put, t4], by simp [get_put, t5], by simp [get_put, t12], by simp [get_put, t13], by simp [get_put], by omega, hlt, hstep, by omega, ml, g6⟩
  · have hlt' : ((i : Int) < (cl.length : Int)) = False := by simp; omega
    have hfin : growL cl = L := by unfold growL; rw [← hL, show i = cl.length by omega, List.take_length, List.take_of_length_le (by omega)]
    rw [← hfin] at g ml
    simp (maxSteps := 2000000) only [B0, B1, B2, B3, B4, B5, B6, B7, Gd, extV, Nat.reduceLT, Nat.reduceEqDiff, Nat.reduceBEq, Nat.reduceAdd, Nat.reduceSub, Nat.reduceMul, ↓reduceIte, reduceCtorEq, if_true, if_false, ite_true, ite_false, Int.reduceLT, Int.reduceLE, ptr, callV_func Try.enters_27, Try.len_22, Try.ia_22, Try.ld_47, allocV_zero Try.zero_47, Try.st_47, Try.fa_47_1, Try.ld_9, Try.len_9, Try.st_9, Try.fa_47_0, Try.ld_3, Try.fa_47_2, Try.ld_2, callV_func Try.enters_28, callV_func Try.enters_30, callV_func Try.enters_24, Try.len_27, Try.ia_27, Try.ld_32, allocV_zero Try.zero_32, Try.st_32, Try.fa_32_0, t4,  t5,  t12,  t13,  t14,  hlt', rs_two (show Try.f18.results = #[.tmp 2,  .tmp 3] from rfl)]
    exact hQ _ _ _ _ _ g ml
end Go.Proofs.Ytongccpmdndcgaa.Alm
end
/- The law's own trial of the alarms. -/
section
set_option linter.all false
namespace Go.Proofs.Ytongccpmdndcgaa.Alm
open Go Go.AE Go.Hp Go.Sort Go.Proofs
set_option maxRecDepth 100000
variable {gs : List Nat} {orc : Orc} {n : Nat} {σ : AHeap} {Q : Value × AHeap → Prop}

structure Free6 (orc : Orc) : Prop extends Free5 orc where
  h25 : orc 25 = none
  h21 : orc 21 = none
  h3 : orc 3 = none
  h4 : orc 4 = none
  h5 : orc 5 = none
abbrev ca : ByteArray := ⟨#[97]⟩
abbrev cb : ByteArray := ⟨#[98]⟩
abbrev cc : ByteArray := ⟨#[99]⟩
theorem tb1 : (if bad cb 5 then [] else setA cb 5 []) = [(cb, 5)] ∧ (if bad cb 5 then 1 else 0) = (0 : Int) := by decide
theorem tb2 : (if bad ca 5 then [(cb, 5)] else setA ca 5 [(cb, 5)]) = [(ca, 5), (cb, 5)] ∧ (if bad ca 5 then 1 else 0) = (0 : Int) := by decide
theorem tb3 : (if bad cc 3 then [(ca, 5), (cb, 5)] else setA cc 3 [(ca, 5), (cb, 5)]) = [(cc, 3), (ca, 5), (cb, 5)] ∧ (if bad cc 3 then 1 else 0) = (0 : Int) := by decide
theorem tb4 : (if bad ca 5 then [] else setA ca 5 []) = [(ca, 5)] := by decide
theorem tb5 : (if bad ca 9 then [(ca, 5)] else setA ca 9 [(ca, 5)]) = [(ca, 9)] ∧ (if bad ca 9 then 1 else 0) = (0 : Int) := by decide
theorem tb6 : due 5 [(cc, 3), (ca, 5), (cb, 5)] = [(cc, 3), (ca, 5), (cb, 5)] ∧ due 6 [(ca, 9)] = [] ∧ left 6 [(ca, 9)] = [(ca, 9)] := by decide
theorem eqV_al (x y : Al) : eqV Try.prog 32 (alV x) (alV y) = some (decide (x = y)) := by
  unfold alV
  rw [eqV_agg (fs := [_, _]) Try.underlying32 (by kernel_rfl) (by intro f hf; simp at hf; rcases hf with rfl | rfl <;> simp) rfl rfl]
  have ha : isAgg' Try.prog 9 = some false := by kernel_rfl
  have hb : isAgg' Try.prog 2 = some false := by kernel_rfl
  simp only [eqFs, part_cell ha (show #[Value.string x.1, .int .i64 x.2][0]? = some (.string x.1) from rfl), part_cell ha (show #[Value.string y.1, .int .i64 y.2][0]? = some (.string y.1) from rfl), part_cell hb (show #[Value.string x.1, .int .i64 x.2][1]? = some (.int .i64 x.2) from rfl), part_cell hb (show #[Value.string y.1, .int .i64 y.2][1]? = some (.int .i64 y.2) from rfl), eq_str Try.underlying9, eq_int Try.underlying2]
  obtain ⟨a, s⟩ := x
  obtain ⟨b, t⟩ := y
  simp only [Prod.mk.injEq]
  by_cases h1 : a = b <;> by_cases h2 : s = t <;> simp [h1, h2]
theorem bin_al {x y : Operand} {a b : Al} : bin Try.prog .eql 32 x y (alV a) (alV b) = some (.bool (decide (a = b))) := bin_agg (by kernel_rfl) (eqV_al a b)
theorem bin_al_ne {x y : Operand} {a b : Al} : bin Try.prog .neq 32 x y (alV a) (alV b) = some (.bool !(decide (a = b))) := bin_agg_ne (by kernel_rfl) (eqV_al a b)
/-- Two alarms beside each other. -/
structure Two (σ σ' : AHeap) (p : Nat) (F : List Nat) (L : List Al) (p' : Nat) (F' : List Nat) (L' : List Al) : Prop where
  h : HAt σ' p F L
  h' : HAt σ' p' F' L'
  dis : ∀ b ∈ F, b ∉ F'
  low : ∀ b ∈ F, σ.next ≤ b
  low' : ∀ b ∈ F', σ.next ≤ b
  same : Same σ σ' []
theorem Two.symm {σ σ' : AHeap} {p : Nat} {F : List Nat} {L : List Al} {p' : Nat} {F' : List Nat} {L' : List Al} (w : Two σ σ' p F L p' F' L') : Two σ σ' p' F' L' p F L :=
  ⟨w.h', w.h, fun b hb q => w.dis b q hb, w.low', w.low, w.same⟩
theorem Two.call {σ σ1 σ2 : AHeap} {p : Nat} {F F2 : List Nat} {L L2 : List Al} {p' : Nat} {F' : List Nat} {L' : List Al} (w : Two σ σ1 p F L p' F' L') (hh : HAt σ2 p F2 L2) (hF : ∀ b ∈ F2, b ∈ F ∨ σ1.next ≤ b) (hS : Same σ1 σ2 F) : Two σ σ2 p F2 L2 p' F' L' := by
  have hn := w.same.next
  refine ⟨hh, w.h'.same hS (fun b hb q => w.dis b q hb), fun b hb q => ?_, fun b hb => ?_, w.low', (w.same.app hS).old fun b hb => by simp at hb; exact .inr (w.low b hb)⟩
  · rcases hF b hb with r | r
    · exact w.dis b r q
    · have := w.h'.low b q; omega
  · rcases hF b hb with r | r
    · exact w.low b r
    · omega
theorem Two.step {σ σ1 σ2 : AHeap} {p : Nat} {F : List Nat} {L : List Al} {p' : Nat} {F' : List Nat} {L' : List Al} (w : Two σ σ1 p F L p' F' L') (hS : Same σ1 σ2 []) : Two σ σ2 p F L p' F' L' :=
  ⟨w.h.same hS nofun, w.h'.same hS nofun, w.dis, w.low, w.low', w.same.trans hS nofun⟩
theorem tells_run (f : Free6 orc) (hn : 4 ≤ n) (hQ : ∀ σ', Same σ σ' [] → Q (.bool true, σ')) : W (acall Try.prog gs orc (n + 11) 25 [] σ) Q := by
  rw [W_start (m := 78) (keep := []) Try.func25 rfl (by kernel_rfl) (by kernel_rfl) (by first | rfl | assumption | exact f.h25) (by rfl)]
  simp (maxSteps := 2000000) only [B0, B1, B2, B3, B4, B5, B6, B7, Gd, extV, Nat.reduceLT, Nat.reduceEqDiff, Nat.reduceBEq, Nat.reduceAdd, Nat.reduceSub, Nat.reduceMul, ↓reduceIte, reduceCtorEq, if_true, if_false, ite_true, ite_false, Int.reduceLT, Int.reduceLE, ptr, callV_func Try.enters_27, callV_func Try.enters_28, callV_func Try.enters_24, callV_func Try.enters_23, allocV_zero Try.zero_32, Try.st_32, Try.len_27, Try.ia_27, Try.fa_32_0, Try.ld_9, Try.ld_32, callV_func Try.enters_27,  callV_func Try.enters_28,  callV_func Try.enters_24,  callV_func Try.enters_23,  Int.reduceEq,  Int.reduceNe, rs_tmp (show Try.f25.results = #[.tmp 0] from rfl)]
  refine new_run f.toFree3 fun σ1 p F hp hF hS1 => ?_
  simp (maxSteps := 2000000) only [B0, B1, B2, B3, B4, B5, B6, B7, Gd, extV, Nat.reduceLT, Nat.reduceEqDiff, Nat.reduceBEq, Nat.reduceAdd, Nat.reduceSub, Nat.reduceMul, ↓reduceIte, reduceCtorEq, if_true, if_false, ite_true, ite_false, Int.reduceLT, Int.reduceLE, ptr, callV_func Try.enters_27, callV_func Try.enters_28, callV_func Try.enters_24, callV_func Try.enters_23, allocV_zero Try.zero_32, Try.st_32, Try.len_27, Try.ia_27, Try.fa_32_0, Try.ld_9, Try.ld_32, callV_func Try.enters_27,  callV_func Try.enters_28,  callV_func Try.enters_24,  callV_func Try.enters_23,  Int.reduceEq,  Int.reduceNe, rs_tmp (show Try.f25.results = #[.tmp 0] from rfl)]
  refine new_run f.toFree3 fun σ2 p' F' hp' hF' hS2 => ?_
  simp (maxSteps := 2000000) only [B0, B1, B2, B3, B4, B5, B6, B7, Gd, extV, Nat.reduceLT, Nat.reduceEqDiff, Nat.reduceBEq, Nat.reduceAdd, Nat.reduceSub, Nat.reduceMul, ↓reduceIte, reduceCtorEq, if_true, if_false, ite_true, ite_false, Int.reduceLT, Int.reduceLE, ptr, callV_func Try.enters_27, callV_func Try.enters_28, callV_func Try.enters_24, callV_func Try.enters_23, allocV_zero Try.zero_32, Try.st_32, Try.len_27, Try.ia_27, Try.fa_32_0, Try.ld_9, Try.ld_32, callV_func Try.enters_27,  callV_func Try.enters_28,  callV_func Try.enters_24,  callV_func Try.enters_23,  Int.reduceEq,  Int.reduceNe, rs_tmp (show Try.f25.results = #[.tmp 0] from rfl)]
  have hn1 := hS1.next
  have w2 : Two σ σ2 p F [] p' F' [] := ⟨hp.same hS2 nofun, hp', fun b hb q => by have := hp.low b hb; have := hF' b q; omega, hF, fun b hb => by have := hF' b hb; omega, hS1.trans hS2 nofun⟩
  refine set_run f.toFree3 w2.h cb 5 (by simp; omega) (by simp) fun σ3 F3 h3 hF3 hS3 => ?_
  rw [tb1.1] at h3
  rw [tb1.2]
  have w3 := w2.call h3 hF3 hS3
  simp (maxSteps := 2000000) only [B0, B1, B2, B3, B4, B5, B6, B7, Gd, extV, Nat.reduceLT, Nat.reduceEqDiff, Nat.reduceBEq, Nat.reduceAdd, Nat.reduceSub, Nat.reduceMul, ↓reduceIte, reduceCtorEq, if_true, if_false, ite_true, ite_false, Int.reduceLT, Int.reduceLE, ptr, callV_func Try.enters_27, callV_func Try.enters_28, callV_func Try.enters_24, callV_func Try.enters_23, allocV_zero Try.zero_32, Try.st_32, Try.len_27, Try.ia_27, Try.fa_32_0, Try.ld_9, Try.ld_32, callV_func Try.enters_27,  callV_func Try.enters_28,  callV_func Try.enters_24,  callV_func Try.enters_23,  Int.reduceEq,  Int.reduceNe, rs_tmp (show Try.f25.results = #[.tmp 0] from rfl)]
  refine set_run f.toFree3 w3.h ca 5 (by simp; omega) (by simp) fun σ4 F4 h4 hF4 hS4 => ?_
  rw [tb2.1] at h4
  rw [tb2.2]
  have w4 := w3.call h4 hF4 hS4
  simp (maxSteps := 2000000) only [B0, B1, B2, B3, B4, B5, B6, B7, Gd, extV, Nat.reduceLT, Nat.reduceEqDiff, Nat.reduceBEq, Nat.reduceAdd, Nat.reduceSub, Nat.reduceMul, ↓reduceIte, reduceCtorEq, if_true, if_false, ite_true, ite_false, Int.reduceLT, Int.reduceLE, ptr, callV_func Try.enters_27, callV_func Try.enters_28, callV_func Try.enters_24, callV_func Try.enters_23, allocV_zero Try.zero_32, Try.st_32, Try.len_27, Try.ia_27, Try.fa_32_0, Try.ld_9, Try.ld_32, callV_func Try.enters_27,  callV_func Try.enters_28,  callV_func Try.enters_24,  callV_func Try.enters_23,  Int.reduceEq,  Int.reduceNe, rs_tmp (show Try.f25.results = #[.tmp 0] from rfl)]
  refine set_run f.toFree3 w4.h cc 3 (by simp; omega) (by simp) fun σ5 F5 h5 hF5 hS5 => ?_
  rw [tb3.1] at h5
  rw [tb3.2]
  have w5 := (w4.call h5 hF5 hS5).symm
  simp (maxSteps := 2000000) only [B0, B1, B2, B3, B4, B5, B6, B7, Gd, extV, Nat.reduceLT, Nat.reduceEqDiff, Nat.reduceBEq, Nat.reduceAdd, Nat.reduceSub, Nat.reduceMul, ↓reduceIte, reduceCtorEq, if_true, if_false, ite_true, ite_false, Int.reduceLT, Int.reduceLE, ptr, callV_func Try.enters_27, callV_func Try.enters_28, callV_func Try.enters_24, callV_func Try.enters_23, allocV_zero Try.zero_32, Try.st_32, Try.len_27, Try.ia_27, Try.fa_32_0, Try.ld_9, Try.ld_32, callV_func Try.enters_27,  callV_func Try.enters_28,  callV_func Try.enters_24,  callV_func Try.enters_23,  Int.reduceEq,  Int.reduceNe, rs_tmp (show Try.f25.results = #[.tmp 0] from rfl)]
  refine set_run f.toFree3 w5.h ca 5 (by simp; omega) (by simp) fun σ6 F6 h6 hF6 hS6 => ?_
  rw [tb4] at h6
  rw [show (if bad ca 5 then 1 else 0 : Int) = 0 from tb2.2]
  have w6 := w5.call h6 hF6 hS6
  simp (maxSteps := 2000000) only [B0, B1, B2, B3, B4, B5, B6, B7, Gd, extV, Nat.reduceLT, Nat.reduceEqDiff, Nat.reduceBEq, Nat.reduceAdd, Nat.reduceSub, Nat.reduceMul, ↓reduceIte, reduceCtorEq, if_true, if_false, ite_true, ite_false, Int.reduceLT, Int.reduceLE, ptr, callV_func Try.enters_27, callV_func Try.enters_28, callV_func Try.enters_24, callV_func Try.enters_23, allocV_zero Try.zero_32, Try.st_32, Try.len_27, Try.ia_27, Try.fa_32_0, Try.ld_9, Try.ld_32, callV_func Try.enters_27,  callV_func Try.enters_28,  callV_func Try.enters_24,  callV_func Try.enters_23,  Int.reduceEq,  Int.reduceNe, rs_tmp (show Try.f25.results = #[.tmp 0] from rfl)]
  refine set_run f.toFree3 w6.h ca 9 (by simp; omega) (by simp) fun σ7 F7 h7 hF7 hS7 => ?_
  rw [tb5.1] at h7
  rw [tb5.2]
  have w7 := (w6.call h7 hF7 hS7).symm
  simp (maxSteps := 2000000) only [B0, B1, B2, B3, B4, B5, B6, B7, Gd, extV, Nat.reduceLT, Nat.reduceEqDiff, Nat.reduceBEq, Nat.reduceAdd, Nat.reduceSub, Nat.reduceMul, ↓reduceIte, reduceCtorEq, if_true, if_false, ite_true, ite_false, Int.reduceLT, Int.reduceLE, ptr, callV_func Try.enters_27, callV_func Try.enters_28, callV_func Try.enters_24, callV_func Try.enters_23, allocV_zero Try.zero_32, Try.st_32, Try.len_27, Try.ia_27, Try.fa_32_0, Try.ld_9, Try.ld_32, callV_func Try.enters_27,  callV_func Try.enters_28,  callV_func Try.enters_24,  callV_func Try.enters_23,  Int.reduceEq,  Int.reduceNe, rs_tmp (show Try.f25.results = #[.tmp 0] from rfl)]
  refine due_run f.toFree3 w7.h 5 (by simp; omega) (by simp) fun σ8 v8 h8 hv8 hb8 hS8 => ?_
  rw [tb6.1] at hv8
  have w8 := (w7.call h8 (fun b hb => .inl hb) hS8).symm
  simp (maxSteps := 2000000) only [B0, B1, B2, B3, B4, B5, B6, B7, Gd, extV, Nat.reduceLT, Nat.reduceEqDiff, Nat.reduceBEq, Nat.reduceAdd, Nat.reduceSub, Nat.reduceMul, ↓reduceIte, reduceCtorEq, if_true, if_false, ite_true, ite_false, Int.reduceLT, Int.reduceLE, ptr, callV_func Try.enters_27, callV_func Try.enters_28, callV_func Try.enters_24, callV_func Try.enters_23, allocV_zero Try.zero_32, Try.st_32, Try.len_27, Try.ia_27, Try.fa_32_0, Try.ld_9, Try.ld_32, callV_func Try.enters_27,  callV_func Try.enters_28,  callV_func Try.enters_24,  callV_func Try.enters_23,  Int.reduceEq,  Int.reduceNe, rs_tmp (show Try.f25.results = #[.tmp 0] from rfl)]
  refine due_run f.toFree3 w8.h 6 (by simp; omega) (by simp) fun σ9 v9 h9 hv9 hb9 hS9 => ?_
  rw [tb6.2.1] at hv9
  rw [tb6.2.2] at h9
  have w9 := w8.call h9 (fun b hb => .inl hb) hS9
  have hn7 := w7.same.next
  have hv8' := hv8.same hS9 (fun b hb q => by have := hb8 b hb; have := w7.h'.low b q; omega)
  simp (maxSteps := 2000000) only [B0, B1, B2, B3, B4, B5, B6, B7, Gd, extV, Nat.reduceLT, Nat.reduceEqDiff, Nat.reduceBEq, Nat.reduceAdd, Nat.reduceSub, Nat.reduceMul, ↓reduceIte, reduceCtorEq, if_true, if_false, ite_true, ite_false, Int.reduceLT, Int.reduceLE, ptr, callV_func Try.enters_27, callV_func Try.enters_28, callV_func Try.enters_24, callV_func Try.enters_23, allocV_zero Try.zero_32, Try.st_32, Try.len_27, Try.ia_27, Try.fa_32_0, Try.ld_9, Try.ld_32, callV_func Try.enters_27,  callV_func Try.enters_28,  callV_func Try.enters_24,  callV_func Try.enters_23,  Int.reduceEq,  Int.reduceNe, rs_tmp (show Try.f25.results = #[.tmp 0] from rfl)]
  refine next_run f.toFree3 w9.h fun σ10 c hSa hc0 hc1 => ?_
  have c1 := hc1 _ _ rfl
  subst c1
  have hva := hv8'.same hSa nofun
  obtain ⟨a, cp, rfl, _⟩ := hva.len
  obtain ⟨a', cp', rfl, _⟩ := hv9.len
  obtain ⟨σ11, e11, hS11, hv11, hn11⟩ : ∃ σ', (newCells σ10 32 [.string ⟨#[]⟩, .int .i64 0]).2 = σ' ∧ Same σ10 σ' [] ∧ VarAt σ' σ10.next [.string ⟨#[]⟩, .int .i64 0] ∧ σ'.next = σ10.next + 1 := ⟨_, rfl, .newCells _ _ _ _, .new _ _ _ _, rfl⟩
  obtain ⟨σ12, t12, hv12, hS12, hn12⟩ := hv11.store (vs' := [.string ca, .int .i64 9]) rfl (by intro v hv; simp at hv; rcases hv with rfl | rfl <;> rfl)
  have hvb := (hva.same hS11 nofun).same hS12 (fun b hb q => by have := hva.lt b hb; simp at q; omega)
  obtain ⟨b, o, cap, g, e, hb, hbl, hr⟩ := hvb.at_ (i := 0) rfl
  injection e with e _ _
  subst e
  have r0 := hr.ld (i := 0) (j := 0) rfl rfl
  have r1 := hr.ld (i := 1) (j := 0) rfl rfl
  have r2 := hr.ld (i := 2) (j := 0) rfl rfl
  simp only [Nat.zero_mul, Nat.one_mul, Nat.add_zero] at r0 r1 r2
  have bq : ∀ {x y}, bin Try.prog .eql 32 x y (.agg #[.string ca, .int .i64 9]) (.agg #[.string ca, .int .i64 9]) = some (.bool true) := bin_al (a := (ca, 9)) (b := (ca, 9))
  have i1 : idx (.int .i64 1) 3 = some 1 := rfl
  have i2 : idx (.int .i64 2) 3 = some 2 := rfl
  have i0 : idx (.int .i64 0) 3 = some 0 := rfl
  have l12 : ldCells σ12 σ10.next 0 2 = some [.string ca, .int .i64 9] := hv12.ldCells
  simp (maxSteps := 2000000) only [B0, B1, B2, B3, B4, B5, B6, B7, Gd, extV, Nat.reduceLT, Nat.reduceEqDiff, Nat.reduceBEq, Nat.reduceAdd, Nat.reduceSub, Nat.reduceMul, ↓reduceIte, reduceCtorEq, if_true, if_false, ite_true, ite_false, Int.reduceLT, Int.reduceLE, ptr, callV_func Try.enters_27, callV_func Try.enters_28, callV_func Try.enters_24, callV_func Try.enters_23, allocV_zero Try.zero_32, Try.st_32, Try.len_27, Try.ia_27, Try.fa_32_0, Try.ld_9, Try.ld_32, alV,  List.headD_cons,  allocV_zero Try.zero_32,  e11,  Try.st_32,  Value.cells,  List.size_toArray,  t12,  Try.len_27,  Try.ia_27,  Try.fa_32_0,  Try.ld_9,  Try.ld_32,  r0,  r1,  r2,  l12,  b32,  bq,  i0,  i1,  i2, callV_func Try.enters_27,  callV_func Try.enters_28,  callV_func Try.enters_24,  callV_func Try.enters_23,  Int.reduceEq,  Int.reduceNe, rs_tmp (show Try.f25.results = #[.tmp 0] from rfl)]
  exact hQ _ ((((((w9.same.app hSa).app hS11).app hS12)).old fun b hb => by simp at hb; have := w9.same.next; have := hSa.next; exact .inr (by omega)))
end Go.Proofs.Ytongccpmdndcgaa.Alm
end
/- What rises. -/
section
set_option linter.all false
namespace Go.AE
end Go.AE
namespace Go.Proofs.Ytongccpmdndcgaa.Alm
open Go Go.AE Go.Hp Go.Sort Go.Proofs
set_option maxRecDepth 100000
set_option maxHeartbeats 2000000
attribute [local irreducible] Go.AE.Tr.put Go.AE.Tr.get
variable {gs : List Nat} {orc : Orc} {n : Nat} {σ : AHeap} {Q : Value × AHeap → Prop}

theorem rises_run (f : Free6 orc) {v : Value} {L : List Al} (hv : SlAt σ 32 2 encA v L) (hs : L.Pairwise lt) (hn : L.length < n) (hN : L.length ≤ 1048576) : Q (.bool true, σ) → W (acall Try.prog gs orc (n + 1) 21 [v] σ) Q := by
  intro hQ
  obtain ⟨a, c, rfl, _⟩ := hv.len
  rw [W_start (m := 50) (keep := []) Try.func21 rfl (by kernel_rfl) (by kernel_rfl) (by first | rfl | assumption | exact f.h21) (by rfl)]
  simp (maxSteps := 2000000) only [B0, B1, B2, B3, B4, B5, B6, B7, Gd, extV, Nat.reduceLT, Nat.reduceEqDiff, Nat.reduceBEq, Nat.reduceAdd, Nat.reduceSub, Nat.reduceMul, ↓reduceIte, reduceCtorEq, if_true, if_false, ite_true, ite_false, Int.reduceLT, Int.reduceLE, ptr, Try.len_27, Try.ia_27, Try.fa_32_1, Try.ld_2, Try.fa_32_0, Try.ld_9, rs_tmp (show Try.f21.results = #[.tmp 2] from rfl)]
  refine W_inv (fun k fr σ' => σ' = σ ∧ ∃ (t : Tr Value) (i : Nat), fr = ⟨50, t⟩ ∧ t.get 0 = some (.slice a L.length c) ∧ t.get 3 = some (.int .i64 (i : Int)) ∧ k = L.length - i ∧ 1 ≤ i) (L.length - 1) (by omega)
    ⟨rfl, _, 1, rfl, by simp [get_put, get_args], by simp [get_put], rfl, by omega⟩ ?_
  rintro k fr σ1 ⟨rfl, t, i, rfl, t0, t3, rfl, hi⟩
  by_cases hlt : i < L.length
  · have hlt' : (i : Int) < (L.length : Int) := by omega
    have hx := List.getElem?_eq_getElem hlt
    have hy := List.getElem?_eq_getElem (show i - 1 < L.length by omega)
    have hl : lt L[i - 1] L[i] := List.pairwise_iff_getElem.1 hs _ _ (by omega) hlt (by omega)
    rw [lt_iff] at hl
    generalize L[i] = x at hx hl
    generalize L[i - 1] = y at hy hl
    obtain ⟨b, o, cap, g, e, hb, hbl, hr⟩ := hv.at_ hx
    injection e with e _ _
    subst e
    have x0 := hr.ld (j := 0) hx rfl
    have x1 := hr.ld (j := 1) hx rfl
    have y0 := hr.ld (j := 0) hy rfl
    have y1 := hr.ld (j := 1) hy rfl
    simp only [Nat.add_zero] at x0 y0
    have hw : IntKind.i64.wrap ((i : Int) - 1) = ((i - 1 : Nat) : Int) := by rw [wrap64 (by omega) (by omega)]; omega
    have hw1 : IntKind.i64.wrap ((i : Int) + 1) = ((i + 1 : Nat) : Int) := wrap64 (by omega) (by omega)
    have hi1 : i - 1 < L.length := by omega
    have q1 : (x.2 < y.2) = False := by simp; rcases hl with h | ⟨h, _⟩ <;> omega
    by_cases q2 : y.2 = x.2
    · have q2' : (y.2 = x.2) = True := by simp [q2]
      have q3 : sLt y.1 x.1 = true := by rcases hl with h | ⟨_, h⟩; omega; exact h
      simp (maxSteps := 2000000) only [B0, B1, B2, B3, B4, B5, B6, B7, Gd, extV, Nat.reduceLT, Nat.reduceEqDiff, Nat.reduceBEq, Nat.reduceAdd, Nat.reduceSub, Nat.reduceMul, ↓reduceIte, reduceCtorEq, if_true, if_false, ite_true, ite_false, Int.reduceLT, Int.reduceLE, ptr, Try.len_27, Try.ia_27, Try.fa_32_1, Try.ld_2, Try.fa_32_0, Try.ld_9, q2',  q3, t0,  t3,  Try.len_27,  hlt',  Try.ia_27,  hlt,  hi1,  hw,  hw1,  Try.fa_32_0,  Try.fa_32_1,  Try.ld_2,  Try.ld_9,  x0,  x1,  y0,  y1,  q1,  bin_sgeq,  KInv_normal, rs_tmp (show Try.f21.results = #[.tmp 2] from rfl)]
      exact ⟨L.length - (i + 1), by omega, _, i + 1, rfl, by simp [get_put, t0], by simp [get_put], rfl, by omega⟩
    · have q2' : (y.2 = x.2) = False := by simp [q2]
      simp (maxSteps := 2000000) only [B0, B1, B2, B3, B4, B5, B6, B7, Gd, extV, Nat.reduceLT, Nat.reduceEqDiff, Nat.reduceBEq, Nat.reduceAdd, Nat.reduceSub, Nat.reduceMul, ↓reduceIte, reduceCtorEq, if_true, if_false, ite_true, ite_false, Int.reduceLT, Int.reduceLE, ptr, Try.len_27, Try.ia_27, Try.fa_32_1, Try.ld_2, Try.fa_32_0, Try.ld_9, q2', t0,  t3,  Try.len_27,  hlt',  Try.ia_27,  hlt,  hi1,  hw,  hw1,  Try.fa_32_0,  Try.fa_32_1,  Try.ld_2,  Try.ld_9,  x0,  x1,  y0,  y1,  q1,  bin_sgeq,  KInv_normal, rs_tmp (show Try.f21.results = #[.tmp 2] from rfl)]
      exact ⟨L.length - (i + 1), by omega, _, i + 1, rfl, by simp [get_put, t0], by simp [get_put], rfl, by omega⟩
  · have hlt' : ((i : Int) < (L.length : Int)) = False := by simp; omega
    simp (maxSteps := 2000000) only [B0, B1, B2, B3, B4, B5, B6, B7, Gd, extV, Nat.reduceLT, Nat.reduceEqDiff, Nat.reduceBEq, Nat.reduceAdd, Nat.reduceSub, Nat.reduceMul, ↓reduceIte, reduceCtorEq, if_true, if_false, ite_true, ite_false, Int.reduceLT, Int.reduceLE, ptr, Try.len_27, Try.ia_27, Try.fa_32_1, Try.ld_2, Try.fa_32_0, Try.ld_9, t0,  t3,  Try.len_27,  hlt', rs_tmp (show Try.f21.results = #[.tmp 2] from rfl)]
    exact hQ
end Go.Proofs.Ytongccpmdndcgaa.Alm
end
/- The law's alarms, in order: the run. -/
section
set_option linter.all false
namespace Go.Proofs.Ytongccpmdndcgaa.Alm
open Go Go.AE Go.Hp Go.Sort Go.Proofs
set_option maxRecDepth 100000
set_option maxHeartbeats 1000000
attribute [local irreducible] Go.AE.Tr.put Go.AE.Tr.get
variable {gs : List Nat} {orc : Orc} {n : Nat} {σ : AHeap} {Q : Value × AHeap → Prop}

theorem fold_len : ∀ (cl : List Cl) (L : List Al), KD L → KD (cl.foldl stepL L) ∧ (cl.foldl stepL L).length ≤ L.length + cl.length
  | [], L, h => ⟨h, by simp⟩
  | x :: cl, L, h => by
    have hk : KD (stepL L x) := stepL_kd x h
    obtain ⟨h1, h2⟩ := fold_len cl _ hk
    have := stepL_len L x h
    exact ⟨h1, by rw [List.foldl_cons, List.length_cons]; omega⟩
theorem growL_len (cl : List Cl) : (growL cl).length ≤ 100 := by
  have h := (fold_len (cl.take 100) [] List.nodup_nil).2
  unfold growL
  simp at h
  omega
/-- A variable made and filled. -/
theorem newVar (σ : AHeap) (T : TypeId) (zs vs : List Value) (hl : vs.length = zs.length) (hs : ∀ v ∈ vs, single v = true) :
    ∃ σ1 σ2, (newCells σ T zs).2 = σ1 ∧ stCells σ1 σ.next 0 vs = some σ2 ∧ Same σ σ2 [] ∧ VarAt σ2 σ.next vs ∧ σ2.next = σ.next + 1 := by
  obtain ⟨σ2, t2, hv2, hS2, hn2⟩ := (VarAt.new σ T zs false).store hl hs
  have hS1 : Same σ (newCells σ T zs).2 [] := .newCells _ _ _ _
  exact ⟨_, σ2, rfl, t2, (hS1.app hS2).old fun b hb => by simp at hb; exact .inr (by omega), hv2, by rw [hn2, next_newCells]⟩
theorem encA_single (x : Al) : ∀ v ∈ encA x, single v = true := encOk.single x
theorem due_cons (x : Al) (l : List Al) (hs : (x :: l).Pairwise lt) : due x.2 (x :: l) = x :: due x.2 l ∧ ∀ y ∈ due x.2 (x :: l), y.2 = x.2 := by
  have e : due x.2 (x :: l) = x :: due x.2 l := by unfold due; rw [List.takeWhile_cons_of_pos (by simp)]
  refine ⟨e, fun y hy => ?_⟩
  rw [e] at hy
  rcases List.mem_cons.1 hy with rfl | hy
  · rfl
  · have h1 : y.2 ≤ x.2 := by
      have := List.all_takeWhile (p := fun z : Al => decide (z.2 ≤ x.2)) (l := l)
      simpa using List.all_eq_true.1 this y hy
    have h2 : y ∈ l := (List.takeWhile_sublist _).subset hy
    have h3 := (List.pairwise_cons.1 hs).1 y h2
    rw [lt_iff] at h3
    rcases h3 with h | ⟨h, _⟩ <;> omega
theorem left_cons (x : Al) (l : List Al) : left x.2 (x :: l) = left x.2 l := by unfold left; rw [List.dropWhile_cons_of_pos (by simp)]
structure Free7 (orc : Orc) : Prop extends Free6 orc where
  h7a : orc 9 = none
theorem inOrder_run (f : Free6 orc) {v : Value} {cl : List Cl} (hv : SlR σ 3 encC v cl) (hn : 110 ≤ n) (hQ : ∀ σ', Same σ σ' [] → Q (.bool true, σ')) : W (acall Try.prog gs orc (n + 12) 3 [v] σ) Q := by
  rw [W_start (m := 142) (keep := []) Try.func3 rfl (by kernel_rfl) (by kernel_rfl) (by first | rfl | assumption | exact f.h3) (by rfl)]
  simp (maxSteps := 2000000) only [B0, B1, B2, B3, B4, B5, B6, B7, Gd, extV, Nat.reduceLT, Nat.reduceEqDiff, Nat.reduceBEq, Nat.reduceAdd, Nat.reduceSub, Nat.reduceMul, ↓reduceIte, reduceCtorEq, if_true, if_false, ite_true, ite_false, Int.reduceLT, Int.reduceLE, ptr, callV_func Try.enters_18, callV_func Try.enters_19, Try.len_27, callV_func Try.enters_20, callV_func Try.enters_21, Try.ia_27, Try.ld_32, allocV_zero Try.zero_32, Try.st_32, Try.fa_32_0, Try.ld_9, callV_func Try.enters_22, Try.fa_32_1, Try.ld_2, callV_func Try.enters_23, callV_func Try.enters_24, callV_func Try.enters_25, rs_tmp (show Try.f3.results = #[.tmp 2] from rfl)]
  refine grown_run f.toFree5 hv (by omega) fun σ1 p m F M g ml => ?_
  have hL := growL_len cl
  generalize growL cl = L at g ml hL
  simp (maxSteps := 2000000) only [B0, B1, B2, B3, B4, B5, B6, B7, Gd, extV, Nat.reduceLT, Nat.reduceEqDiff, Nat.reduceBEq, Nat.reduceAdd, Nat.reduceSub, Nat.reduceMul, ↓reduceIte, reduceCtorEq, if_true, if_false, ite_true, ite_false, Int.reduceLT, Int.reduceLE, ptr, callV_func Try.enters_18, callV_func Try.enters_19, Try.len_27, callV_func Try.enters_20, callV_func Try.enters_21, Try.ia_27, Try.ld_32, allocV_zero Try.zero_32, Try.st_32, Try.fa_32_0, Try.ld_9, callV_func Try.enters_22, Try.fa_32_1, Try.ld_2, callV_func Try.enters_23, callV_func Try.enters_24, callV_func Try.enters_25, rs_tmp (show Try.f3.results = #[.tmp 2] from rfl)]
  refine all_run f.toFree4 g.h (by omega) fun σ2 va hva hba hS2 => ?_
  have g2 := g.step hS2 nofun
  have hn1 := hS2.next
  have hFlt := g.h.low
  obtain ⟨a, c, rfl, hac⟩ := hva.len
  have hml := ml.len
  have lm : ∀ {τ : AHeap}, MapAt τ m M → builtin' Try.prog .len #[24] [.map (some m)] τ = some (.int .i64 (L.length : Int), τ) := fun h => by rw [h.len Try.underlying24 rfl, hml]; rfl
  simp (maxSteps := 2000000) only [B0, B1, B2, B3, B4, B5, B6, B7, Gd, extV, Nat.reduceLT, Nat.reduceEqDiff, Nat.reduceBEq, Nat.reduceAdd, Nat.reduceSub, Nat.reduceMul, ↓reduceIte, reduceCtorEq, if_true, if_false, ite_true, ite_false, Int.reduceLT, Int.reduceLE, ptr, callV_func Try.enters_18, callV_func Try.enters_19, Try.len_27, callV_func Try.enters_20, callV_func Try.enters_21, Try.ia_27, Try.ld_32, allocV_zero Try.zero_32, Try.st_32, Try.fa_32_0, Try.ld_9, callV_func Try.enters_22, Try.fa_32_1, Try.ld_2, callV_func Try.enters_23, callV_func Try.enters_24, callV_func Try.enters_25, lm g2.mp,  len_h f.toFree g2.h, rs_tmp (show Try.f3.results = #[.tmp 2] from rfl)]
  refine rises_run f hva g2.h.srt (by omega) (by omega) ?_
  simp (maxSteps := 2000000) only [B0, B1, B2, B3, B4, B5, B6, B7, Gd, extV, Nat.reduceLT, Nat.reduceEqDiff, Nat.reduceBEq, Nat.reduceAdd, Nat.reduceSub, Nat.reduceMul, ↓reduceIte, reduceCtorEq, if_true, if_false, ite_true, ite_false, Int.reduceLT, Int.reduceLE, ptr, callV_func Try.enters_18, callV_func Try.enters_19, Try.len_27, callV_func Try.enters_20, callV_func Try.enters_21, Try.ia_27, Try.ld_32, allocV_zero Try.zero_32, Try.st_32, Try.fa_32_0, Try.ld_9, callV_func Try.enters_22, Try.fa_32_1, Try.ld_2, callV_func Try.enters_23, callV_func Try.enters_24, callV_func Try.enters_25, rs_tmp (show Try.f3.results = #[.tmp 2] from rfl)]
  refine W_inv (fun k fr σ' => ∃ (t : Tr Value) (i : Nat), fr = ⟨142, t⟩ ∧ t.get 3 = some (pt p) ∧ t.get 4 = some (.map (some m)) ∧ t.get 5 = some (.slice a L.length c) ∧ t.get 42 = some (.slice a L.length c) ∧ t.get 43 = some (.int .i64 (L.length : Int)) ∧ t.get 44 = some (.int .i64 (i : Int)) ∧ k + i = L.length ∧ Same σ2 σ' []) L.length (by omega)
    ⟨_, 0, rfl, by simp [get_put, get_args], by simp [get_put, get_args], by simp [get_put, get_args], by simp [get_put], by simp [get_put], by simp [get_put], rfl, .refl _ _⟩ ?_
  rintro k fr σ3 ⟨t, i, rfl, t3, t4, t5, t42, t43, t44, hk, hS3⟩
  by_cases hlt : i < L.length
  · have hx := List.getElem?_eq_getElem hlt
    have hmem := List.getElem_mem hlt
    generalize L[i] = x at hx hmem
    obtain ⟨b, o, cap, g0, e, hb, hbl, hr⟩ := (hva.same hS3 nofun).at_ hx
    injection e with e _ e3
    subst e e3
    have hld := hr.ldCells encOk hx
    obtain ⟨σ4, σ5, e4, t5', hS5, hv5, hn5⟩ := newVar σ3 32 [.string ⟨#[]⟩, .int .i64 0] (encA x) rfl (encA_single x)
    simp only [encA] at hld t5' hv5
    have hS25 := hS3.trans hS5 nofun
    have g5 := g2.step hS25 nofun
    have y0 := hv5.ld (o := 0) rfl
    have y1 := hv5.ld (o := 1) rfl
    have hlk := lookup_spec Try.underlying24 Try.underlying9 Try.zero_2 g5.mp x.1 true
    have hg : getA x.1 L = some x.2 := getA_mem g5.h.kd hmem
    rw [ml.get, hg] at hlk
    simp only [if_true, Option.map_some, Option.getD_some, Option.isSome_some] at hlk
    have hlt' : (i : Int) < (L.length : Int) := by omega
    have hw1 : IntKind.i64.wrap ((i : Int) + 1) = ((i + 1 : Nat) : Int) := wrap64 (by omega) (by omega)
    simp (maxSteps := 2000000) only [B0, B1, B2, B3, B4, B5, B6, B7, Gd, extV, Nat.reduceLT, Nat.reduceEqDiff, Nat.reduceBEq, Nat.reduceAdd, Nat.reduceSub, Nat.reduceMul, ↓reduceIte, reduceCtorEq, if_true, if_false, ite_true, ite_false, Int.reduceLT, Int.reduceLE, ptr, callV_func Try.enters_18, callV_func Try.enters_19, Try.len_27, callV_func Try.enters_20, callV_func Try.enters_21, Try.ia_27, Try.ld_32, allocV_zero Try.zero_32, Try.st_32, Try.fa_32_0, Try.ld_9, callV_func Try.enters_22, Try.fa_32_1, Try.ld_2, callV_func Try.enters_23, callV_func Try.enters_24, callV_func Try.enters_25, t3,  t4,  t5,  t42,  t43,  t44,  hlt',  hlt,  hld,  e4,  t5',  Value.cells,  List.size_toArray,  y0,  y1,  hlk,  at_run f.toFree3 g5.h,  hg,  Option.isSome_some,  hw1,  KInv_normal, rs_tmp (show Try.f3.results = #[.tmp 2] from rfl)]
    exact ⟨L.length - (i + 1), by omega, _, i + 1, rfl, by simp [get_put, t3], by simp [get_put, t4], by simp [get_put, t5], by simp [get_put, t42], by simp [get_put, t43], by simp [get_put], by omega, hS25⟩
  · have hlt' : ((i : Int) < (L.length : Int)) = False := eq_false (by omega)
    have g3 := g2.step hS3 nofun
    have hn3 := hS3.next
    simp (maxSteps := 2000000) only [B0, B1, B2, B3, B4, B5, B6, B7, Gd, extV, Nat.reduceLT, Nat.reduceEqDiff, Nat.reduceBEq, Nat.reduceAdd, Nat.reduceSub, Nat.reduceMul, ↓reduceIte, reduceCtorEq, if_true, if_false, ite_true, ite_false, Int.reduceLT, Int.reduceLE, ptr, callV_func Try.enters_18, callV_func Try.enters_19, Try.len_27, callV_func Try.enters_20, callV_func Try.enters_21, Try.ia_27, Try.ld_32, allocV_zero Try.zero_32, Try.st_32, Try.fa_32_0, Try.ld_9, callV_func Try.enters_22, Try.fa_32_1, Try.ld_2, callV_func Try.enters_23, callV_func Try.enters_24, callV_func Try.enters_25, t3,  t4,  t5,  t42,  t43,  t44,  hlt', rs_tmp (show Try.f3.results = #[.tmp 2] from rfl)]
    refine next_run f.toFree3 g3.h fun σ4 c0 hS4 hc0 hc1 => ?_
    obtain ⟨σ5, σ6, e5, t6, hS6, hv6, hn6⟩ := newVar σ4 32 [.string ⟨#[]⟩, .int .i64 0] (encA (L.headD (⟨#[]⟩, 0))) rfl (encA_single _)
    simp only [encA] at t6 hv6
    have hn4 := hS4.next
    have hS26 := (hS3.trans hS4 nofun).trans hS6 nofun
    have hh6 := (g3.h.same hS4 nofun).same hS6 nofun
    simp (maxSteps := 2000000) only [B0, B1, B2, B3, B4, B5, B6, B7, Gd, extV, Nat.reduceLT, Nat.reduceEqDiff, Nat.reduceBEq, Nat.reduceAdd, Nat.reduceSub, Nat.reduceMul, ↓reduceIte, reduceCtorEq, if_true, if_false, ite_true, ite_false, Int.reduceLT, Int.reduceLE, ptr, callV_func Try.enters_18, callV_func Try.enters_19, Try.len_27, callV_func Try.enters_20, callV_func Try.enters_21, Try.ia_27, Try.ld_32, allocV_zero Try.zero_32, Try.st_32, Try.fa_32_0, Try.ld_9, callV_func Try.enters_22, Try.fa_32_1, Try.ld_2, callV_func Try.enters_23, callV_func Try.enters_24, callV_func Try.enters_25, alV,  e5,  t6,  Value.cells,  List.size_toArray, rs_tmp (show Try.f3.results = #[.tmp 2] from rfl)]
    refine W_inv (fun k fr σ' => ∃ (t : Tr Value) (D R : List Al) (c1 : Bool) (b13 : Nat), fr = ⟨142, t⟩ ∧ t.get 3 = some (pt p) ∧ t.get 5 = some (.slice a L.length c) ∧ t.get 12 = some (.int .i64 (D.length : Int)) ∧ t.get 13 = some (pt b13) ∧ t.get 14 = some (.bool c1) ∧ k = R.length ∧ D ++ R = L ∧ HAt σ' p F R ∧ VarAt σ' b13 [.string (R.headD (⟨#[]⟩, 0)).1, .int .i64 (R.headD (⟨#[]⟩, 0)).2] ∧ σ2.next ≤ b13 ∧ (R = [] → c1 = false) ∧ (∀ x l, R = x :: l → c1 = true) ∧ Same σ2 σ' F) L.length (by omega)
      ⟨_, [], L, c0, σ4.next, rfl, by simp [get_put, t3], by simp [get_put, t5], by simp [get_put], by simp [get_put], by simp [get_put], rfl, rfl, hh6, hv6, by omega, hc0, hc1, hS26.mono nofun⟩ ?_
    rintro k fr σ7 ⟨t', D, R, c1, b13, rfl, t3', t5', t12', t13', t14', rfl, hDR, h7, hv7, hb13, hc0', hc1', hS7⟩
    have hn7 := hS7.next
    have hlen : D.length + R.length = L.length := by rw [← hDR]; simp
    cases R with
    | nil =>
      have := hc0' rfl
      subst this
      have hDl : (D.length : Int) = (L.length : Int) := by simp at hlen; omega
      simp (maxSteps := 2000000) only [B0, B1, B2, B3, B4, B5, B6, B7, Gd, extV, Nat.reduceLT, Nat.reduceEqDiff, Nat.reduceBEq, Nat.reduceAdd, Nat.reduceSub, Nat.reduceMul, ↓reduceIte, reduceCtorEq, if_true, if_false, ite_true, ite_false, Int.reduceLT, Int.reduceLE, ptr, callV_func Try.enters_18, callV_func Try.enters_19, Try.len_27, callV_func Try.enters_20, callV_func Try.enters_21, Try.ia_27, Try.ld_32, allocV_zero Try.zero_32, Try.st_32, Try.fa_32_0, Try.ld_9, callV_func Try.enters_22, Try.fa_32_1, Try.ld_2, callV_func Try.enters_23, callV_func Try.enters_24, callV_func Try.enters_25, t3',  t5',  t12',  t13',  t14',  hDl,  len_h f.toFree h7,  List.length_nil, rs_tmp (show Try.f3.results = #[.tmp 2] from rfl)]
      refine tells_run f (by omega) fun σ8 hS8 => ?_
      simp (maxSteps := 2000000) only [B0, B1, B2, B3, B4, B5, B6, B7, Gd, extV, Nat.reduceLT, Nat.reduceEqDiff, Nat.reduceBEq, Nat.reduceAdd, Nat.reduceSub, Nat.reduceMul, ↓reduceIte, reduceCtorEq, if_true, if_false, ite_true, ite_false, Int.reduceLT, Int.reduceLE, ptr, callV_func Try.enters_18, callV_func Try.enters_19, Try.len_27, callV_func Try.enters_20, callV_func Try.enters_21, Try.ia_27, Try.ld_32, allocV_zero Try.zero_32, Try.st_32, Try.fa_32_0, Try.ld_9, callV_func Try.enters_22, Try.fa_32_1, Try.ld_2, callV_func Try.enters_23, callV_func Try.enters_24, callV_func Try.enters_25, rs_tmp (show Try.f3.results = #[.tmp 2] from rfl)]
      exact hQ _ ((g2.same.trans (hS7.trans hS8 nofun) fun b hb => .inr (g.low b hb)))
    | cons x l =>
      have hxl : (x :: l).length = l.length + 1 := rfl
      have := hc1' _ _ rfl
      subst this
      have y0 := hv7.ld (o := 0) rfl
      have y1 := hv7.ld (o := 1) rfl
      simp only [List.headD_cons] at y0 y1 hv7
      have hsR : (x :: l).Pairwise lt := h7.srt
      obtain ⟨hd1, hd2⟩ := due_cons x l hsR
      have hDL := due_left x.2 (x :: l)
      simp (maxSteps := 2000000) only [B0, B1, B2, B3, B4, B5, B6, B7, Gd, extV, Nat.reduceLT, Nat.reduceEqDiff, Nat.reduceBEq, Nat.reduceAdd, Nat.reduceSub, Nat.reduceMul, ↓reduceIte, reduceCtorEq, if_true, if_false, ite_true, ite_false, Int.reduceLT, Int.reduceLE, ptr, callV_func Try.enters_18, callV_func Try.enters_19, Try.len_27, callV_func Try.enters_20, callV_func Try.enters_21, Try.ia_27, Try.ld_32, allocV_zero Try.zero_32, Try.st_32, Try.fa_32_0, Try.ld_9, callV_func Try.enters_22, Try.fa_32_1, Try.ld_2, callV_func Try.enters_23, callV_func Try.enters_24, callV_func Try.enters_25, t3',  t5',  t12',  t13',  t14',  y0,  y1, rs_tmp (show Try.f3.results = #[.tmp 2] from rfl)]
      refine due_run f.toFree3 h7 x.2 (by omega) (by omega) fun σ8 vd h8 hvd hbd hS8 => ?_
      have hn8 := hS8.next
      generalize hdd : due x.2 (x :: l) = dl at *
      generalize hll : left x.2 (x :: l) = R' at *
      have hdl : dl.length + R'.length = l.length + 1 := by have := congrArg List.length hDL; simpa using this
      have hd0 : 0 < dl.length := by rw [hd1]; simp
      obtain ⟨a', c', rfl, hac'⟩ := hvd.len
      have hz : ((dl.length : Int) = 0) = False := eq_false (by omega)
      have hwk : IntKind.i64.wrap ((D.length : Int) + (dl.length : Int)) = ((D.length + dl.length : Nat) : Int) := by rw [wrap64 (by omega) (by omega)]; omega
      have hgt : ((L.length : Int) < ((D.length + dl.length : Nat) : Int)) = False := by simp at hlen ⊢; omega
      simp (maxSteps := 2000000) only [B0, B1, B2, B3, B4, B5, B6, B7, Gd, extV, Nat.reduceLT, Nat.reduceEqDiff, Nat.reduceBEq, Nat.reduceAdd, Nat.reduceSub, Nat.reduceMul, ↓reduceIte, reduceCtorEq, if_true, if_false, ite_true, ite_false, Int.reduceLT, Int.reduceLE, ptr, callV_func Try.enters_18, callV_func Try.enters_19, Try.len_27, callV_func Try.enters_20, callV_func Try.enters_21, Try.ia_27, Try.ld_32, allocV_zero Try.zero_32, Try.st_32, Try.fa_32_0, Try.ld_9, callV_func Try.enters_22, Try.fa_32_1, Try.ld_2, callV_func Try.enters_23, callV_func Try.enters_24, callV_func Try.enters_25, t3',  t5',  t12',  t13',  t14',  hz,  hwk,  hgt, rs_tmp (show Try.f3.results = #[.tmp 2] from rfl)]
      have hS28 := hS7.trans hS8 fun b hb => .inl hb
      have hvb : ∀ b ∈ blks (.slice a L.length c), b ∉ F := fun b hb q => by have := hba b hb; have := hFlt b q; omega
      have hva8 := hva.same hS28 hvb
      have hv8 := hv7.same hS8 (fun q => by have := hFlt _ q; omega)
      have hx0 : ∀ {τ : AHeap}, Same σ8 τ [] → ld τ b13 1 = some (.int .i64 x.2) := fun hs => (hv8.same hs nofun).ld (o := 1) rfl
      refine W_inv (fun k fr σ' => ∃ (t : Tr Value) (j : Nat), fr = ⟨142, t⟩ ∧ t.get 3 = some (pt p) ∧ t.get 5 = some (.slice a L.length c) ∧ t.get 12 = some (.int .i64 ((D.length + j : Nat) : Int)) ∧ t.get 13 = some (pt b13) ∧ t.get 107 = some (.slice a' dl.length c') ∧ t.get 108 = some (.int .i64 (dl.length : Int)) ∧ t.get 109 = some (.int .i64 (j : Int)) ∧ k + j = dl.length ∧ Same σ8 σ' []) dl.length (by omega)
        ⟨_, 0, rfl, by simp [get_put, t3'], by simp [get_put, t5'], by simp [get_put, t12'], by simp [get_put, t13'], by simp [get_put], by simp [get_put], by simp [get_put], rfl, .refl _ _⟩ ?_
      rintro k2 fr σ9 ⟨t2, j, rfl, q3, q5, q12, q13, q107, q108, q109, hk2, hS9⟩
      have hn9 := hS9.next
      by_cases hj : j < dl.length
      · have hy := List.getElem?_eq_getElem hj
        have hye := hd2 _ (List.getElem_mem hj)
        generalize dl[j] = y at hy hye
        obtain ⟨yk, yt⟩ := y
        simp only at hye
        subst hye
        obtain ⟨b2, o2, cap2, gg2, e, hb2, hbl2, hr2⟩ := (hvd.same hS9 nofun).at_ hy
        injection e with e _ e3
        subst e e3
        have hld2 := hr2.ldCells encOk hy
        have hly : L[D.length + j]? = some (yk, x.2) := by
          rw [← hDR, List.getElem?_append_right (by omega), show D.length + j - D.length = j by omega, ← hDL, List.getElem?_append_left hj]
          exact hy
        obtain ⟨σ10, σ11, e10, t11, hS11, hv11, hn11⟩ := newVar σ9 32 [.string ⟨#[]⟩, .int .i64 0] (encA (yk, x.2)) rfl (encA_single _)
        have hS8b := hS9.trans hS11 nofun
        obtain ⟨b3, o3, cap3, gg3, e, hb3, hbl3, hr3⟩ := (hva8.same hS8b nofun).at_ hly
        injection e with e _ e3
        subst e e3
        have hld3 := hr3.ldCells encOk hly
        have hlw := hv11.ldCells
        simp only [encA] at hld2 hld3 t11 hv11
        have hlw : ldCells σ11 σ9.next 0 2 = some [.string yk, .int .i64 x.2] := hlw
        have y1 := hv11.ld (o := 1) rfl
        have x1 := hx0 hS8b
        have bq : ∀ {u z}, bin Try.prog .neq 32 u z (.agg #[.string yk, .int .i64 x.2]) (.agg #[.string yk, .int .i64 x.2]) = some (.bool false) := by
          intro u z; have := bin_al_ne (x := u) (y := z) (a := (yk, x.2)) (b := (yk, x.2)); simpa [alV] using this
        have hj' : (j : Int) < (dl.length : Int) := by omega
        have hlt2 : D.length + j < L.length := by omega
        have hw1 : IntKind.i64.wrap ((j : Int) + 1) = ((j + 1 : Nat) : Int) := wrap64 (by omega) (by omega)
        have hw2 : IntKind.i64.wrap (((D.length + j : Nat) : Int) + 1) = ((D.length + (j + 1) : Nat) : Int) := by rw [wrap64 (by omega) (by omega)]; omega
        simp (maxSteps := 2000000) only [B0, B1, B2, B3, B4, B5, B6, B7, Gd, extV, Nat.reduceLT, Nat.reduceEqDiff, Nat.reduceBEq, Nat.reduceAdd, Nat.reduceSub, Nat.reduceMul, ↓reduceIte, reduceCtorEq, if_true, if_false, ite_true, ite_false, Int.reduceLT, Int.reduceLE, ptr, callV_func Try.enters_18, callV_func Try.enters_19, Try.len_27, callV_func Try.enters_20, callV_func Try.enters_21, Try.ia_27, Try.ld_32, allocV_zero Try.zero_32, Try.st_32, Try.fa_32_0, Try.ld_9, callV_func Try.enters_22, Try.fa_32_1, Try.ld_2, callV_func Try.enters_23, callV_func Try.enters_24, callV_func Try.enters_25, q3,  q5,  q12,  q13,  q107,  q108,  q109,  hj',  hj,  hld2,  e10,  t11,  Value.cells,  List.size_toArray,  hld3,  hlw,  bq,  hlt2,  x1,  y1,  hw1,  hw2,  KInv_normal, rs_tmp (show Try.f3.results = #[.tmp 2] from rfl)]
        exact ⟨dl.length - (j + 1), by omega, _, j + 1, rfl, by simp [get_put, q3], by simp [get_put, q5], by simp [get_put], by simp [get_put, q13], by simp [get_put, q107], by simp [get_put, q108], by simp [get_put], by omega, hS8b⟩
      · have hj' : ((j : Int) < (dl.length : Int)) = False := eq_false (by omega)
        have hje : j = dl.length := by omega
        subst hje
        have hv9 := hv8.same hS9 nofun
        have hl9 : ldCells σ9 b13 0 2 = some [.string x.1, .int .i64 x.2] := hv9.ldCells
        obtain ⟨σ10, σ11, e10, t11, hS11, hv11, hn11⟩ := newVar σ9 32 [.string ⟨#[]⟩, .int .i64 0] (encA x) rfl (encA_single x)
        simp only [encA] at t11 hv11
        simp (maxSteps := 2000000) only [B0, B1, B2, B3, B4, B5, B6, B7, Gd, extV, Nat.reduceLT, Nat.reduceEqDiff, Nat.reduceBEq, Nat.reduceAdd, Nat.reduceSub, Nat.reduceMul, ↓reduceIte, reduceCtorEq, if_true, if_false, ite_true, ite_false, Int.reduceLT, Int.reduceLE, ptr, callV_func Try.enters_18, callV_func Try.enters_19, Try.len_27, callV_func Try.enters_20, callV_func Try.enters_21, Try.ia_27, Try.ld_32, allocV_zero Try.zero_32, Try.st_32, Try.fa_32_0, Try.ld_9, callV_func Try.enters_22, Try.fa_32_1, Try.ld_2, callV_func Try.enters_23, callV_func Try.enters_24, callV_func Try.enters_25, q3,  q5,  q12,  q13,  q107,  q108,  q109,  hj',  hl9,  e10,  t11,  Value.cells,  List.size_toArray, rs_tmp (show Try.f3.results = #[.tmp 2] from rfl)]
        have hh11 := (h8.same hS9 nofun).same hS11 nofun
        refine next_run f.toFree3 hh11 fun σ12 c2 hS12 hc2 hc3 => ?_
        obtain ⟨σ13, t13'', hv13, hS13, hn13⟩ := (hv11.same hS12 nofun).store (vs' := [.string (R'.headD (⟨#[]⟩, 0)).1, .int .i64 (R'.headD (⟨#[]⟩, 0)).2]) rfl (by intro v hv; simp at hv; rcases hv with rfl | rfl <;> rfl)
        simp (maxSteps := 2000000) only [B0, B1, B2, B3, B4, B5, B6, B7, Gd, extV, Nat.reduceLT, Nat.reduceEqDiff, Nat.reduceBEq, Nat.reduceAdd, Nat.reduceSub, Nat.reduceMul, ↓reduceIte, reduceCtorEq, if_true, if_false, ite_true, ite_false, Int.reduceLT, Int.reduceLE, ptr, callV_func Try.enters_18, callV_func Try.enters_19, Try.len_27, callV_func Try.enters_20, callV_func Try.enters_21, Try.ia_27, Try.ld_32, allocV_zero Try.zero_32, Try.st_32, Try.fa_32_0, Try.ld_9, callV_func Try.enters_22, Try.fa_32_1, Try.ld_2, callV_func Try.enters_23, callV_func Try.enters_24, callV_func Try.enters_25, q3,  q5,  q12,  q13,  alV,  t13'',  Value.cells,  List.size_toArray,  KInv_normal, rs_tmp (show Try.f3.results = #[.tmp 2] from rfl)]
        have hn12 := hS12.next
        refine ⟨R'.length, by omega, _, D ++ dl, R', c2, σ9.next, rfl, by simp [get_put, q3], by simp [get_put, q5], by simp [get_put, q12], by simp [get_put], by simp [get_put], rfl, by rw [List.append_assoc, hDL, hDR], ?_, hv13, by omega, hc2, hc3, ?_⟩
        · exact (hh11.same hS12 nofun).same hS13 (fun b hb q => by have := hFlt b hb; simp at q; omega)
        · exact ((((hS28.app hS9).app hS11).app hS12).app hS13).old fun b hb => by simp at hb; rcases hb with hb | hb; exact .inl hb; exact .inr (by omega)
end Go.Proofs.Ytongccpmdndcgaa.Alm
end
/- The law on what is due twice: the run. -/
section
set_option linter.all false
namespace Go.Proofs.Ytongccpmdndcgaa.Alm
open Go Go.AE Go.Hp Go.Sort Go.Proofs
set_option maxRecDepth 100000
set_option maxHeartbeats 1000000
attribute [local irreducible] Go.AE.Tr.put Go.AE.Tr.get
variable {gs : List Nat} {orc : Orc} {n : Nat} {σ : AHeap} {Q : Value × AHeap → Prop}

theorem due_mem {t : Int} {L : List Al} {x : Al} (h : x ∈ due t L) : x.2 ≤ t := by
  have := List.all_takeWhile (p := fun z : Al => decide (z.2 ≤ t)) (l := L)
  simpa using List.all_eq_true.1 this x h
theorem left_mem {t : Int} : ∀ {L : List Al}, L.Pairwise lt → ∀ {x : Al}, x ∈ left t L → t < x.2
  | [], _, x, h => by simp [left] at h
  | y :: l, hs, x, h => by
    unfold left at h
    rw [List.dropWhile_cons] at h
    have h1 := List.pairwise_cons.1 hs
    split at h
    · exact left_mem h1.2 h
    · rename_i q
      simp at q
      rcases List.mem_cons.1 h with rfl | hx
      · exact q
      · have := h1.1 x hx
        rw [lt_iff] at this
        rcases this with w | ⟨w, _⟩ <;> omega
theorem due_two {s t : Int} (hst : s ≤ t) : ∀ L : List Al, due s L ++ due t (left s L) = due t L ∧ left t (left s L) = left t L
  | [] => by simp [due, left]
  | y :: l => by
    obtain ⟨h1, h2⟩ := due_two hst l
    by_cases q : y.2 ≤ s
    · have q2 : y.2 ≤ t := by omega
      have e1 : due s (y :: l) = y :: due s l := by unfold due; rw [List.takeWhile_cons_of_pos (by simpa using q)]
      have e2 : left s (y :: l) = left s l := by unfold left; rw [List.dropWhile_cons_of_pos (by simpa using q)]
      have e3 : due t (y :: l) = y :: due t l := by unfold due; rw [List.takeWhile_cons_of_pos (by simpa using q2)]
      have e4 : left t (y :: l) = left t l := by unfold left; rw [List.dropWhile_cons_of_pos (by simpa using q2)]
      rw [e1, e2, e3, e4]
      exact ⟨by rw [List.cons_append, h1], h2⟩
    · have e1 : due s (y :: l) = [] := by unfold due; rw [List.takeWhile_cons_of_neg (by simpa using q)]
      have e2 : left s (y :: l) = y :: l := by unfold left; rw [List.dropWhile_cons_of_neg (by simpa using q)]
      rw [e1, e2]
      exact ⟨rfl, rfl⟩
theorem due_left_nil {t : Int} {L : List Al} (h : ∀ x ∈ L, t < x.2) : due t L = [] ∧ left t L = L := by
  cases L with
  | nil => exact ⟨rfl, rfl⟩
  | cons y l =>
    have := h y (by simp)
    have q : ¬ y.2 ≤ t := by omega
    exact ⟨by unfold due; rw [List.takeWhile_cons_of_neg (by simpa using q)], by unfold left; rw [List.dropWhile_cons_of_neg (by simpa using q)]⟩
theorem blks_sl (a : Option Addr) (n n' c c' : Nat) : blks (.slice a n c) = blks (.slice a n' c') := by
  cases a with
  | none => rfl
  | some x => obtain ⟨b, o, s⟩ := x; cases s <;> rfl
theorem twice_run (f : Free6 orc) {v : Value} {cl : List Cl} {one two : Int} (hv : SlR σ 3 encC v cl) (hn : 110 ≤ n) (hQ : ∀ σ', Same σ σ' [] → Q (.bool true, σ')) : W (acall Try.prog gs orc (n + 12) 4 [v, .int .i64 one, .int .i64 two] σ) Q := by
  obtain ⟨lo, elo⟩ : ∃ lo, (if two < one then two else one) = lo := ⟨_, rfl⟩
  obtain ⟨hi, ehi⟩ : ∃ hi, (if one < two then two else one) = hi := ⟨_, rfl⟩
  have hlh : lo ≤ hi := by rw [← elo, ← ehi]; split <;> split <;> omega
  rw [W_start (m := 154) (keep := []) Try.func4 rfl (by kernel_rfl) (by kernel_rfl) (by first | rfl | assumption | exact f.h4) (by rfl)]
  simp (maxSteps := 2000000) only [B0, B1, B2, B3, B4, B5, B6, B7, Gd, extV, Nat.reduceLT, Nat.reduceEqDiff, Nat.reduceBEq, Nat.reduceAdd, Nat.reduceSub, Nat.reduceMul, ↓reduceIte, reduceCtorEq, if_true, if_false, ite_true, ite_false, Int.reduceLT, Int.reduceLE, ptr, callV_func Try.enters_18, callV_func Try.enters_26, callV_func Try.enters_19, callV_func Try.enters_24, Try.len_27, callV_func Try.enters_20, Try.ia_27, Try.ld_32, allocV_zero Try.zero_32, Try.st_32, Try.fa_32_1, Try.ld_2, callV_func Try.enters_25, min_int,  max_int,  elo,  ehi, rs_tmp (show Try.f4.results = #[.tmp 6] from rfl)]
  refine grown_run f.toFree5 hv (by omega) fun σ1 p m F M g ml => ?_
  have hL := growL_len cl
  generalize growL cl = L at g ml hL
  have hsrt := g.h.srt
  have hF1 := g.h.low
  simp (maxSteps := 2000000) only [B0, B1, B2, B3, B4, B5, B6, B7, Gd, extV, Nat.reduceLT, Nat.reduceEqDiff, Nat.reduceBEq, Nat.reduceAdd, Nat.reduceSub, Nat.reduceMul, ↓reduceIte, reduceCtorEq, if_true, if_false, ite_true, ite_false, Int.reduceLT, Int.reduceLE, ptr, callV_func Try.enters_18, callV_func Try.enters_26, callV_func Try.enters_19, callV_func Try.enters_24, Try.len_27, callV_func Try.enters_20, Try.ia_27, Try.ld_32, allocV_zero Try.zero_32, Try.st_32, Try.fa_32_1, Try.ld_2, callV_func Try.enters_25, rs_tmp (show Try.f4.results = #[.tmp 6] from rfl)]
  refine copy_run f.toFree4 g.h (by omega) fun σ2 p' F' h2' hF' hS2 => ?_
  have h2 := g.h.same hS2 nofun
  have hn2 := hS2.next
  have hF2 := h2'.low
  have hFF : ∀ b ∈ F, b ∉ F' := fun b hb q => by have := hF1 b hb; have := hF' b q; omega
  simp (maxSteps := 2000000) only [B0, B1, B2, B3, B4, B5, B6, B7, Gd, extV, Nat.reduceLT, Nat.reduceEqDiff, Nat.reduceBEq, Nat.reduceAdd, Nat.reduceSub, Nat.reduceMul, ↓reduceIte, reduceCtorEq, if_true, if_false, ite_true, ite_false, Int.reduceLT, Int.reduceLE, ptr, callV_func Try.enters_18, callV_func Try.enters_26, callV_func Try.enters_19, callV_func Try.enters_24, Try.len_27, callV_func Try.enters_20, Try.ia_27, Try.ld_32, allocV_zero Try.zero_32, Try.st_32, Try.fa_32_1, Try.ld_2, callV_func Try.enters_25, rs_tmp (show Try.f4.results = #[.tmp 6] from rfl)]
  refine all_run f.toFree4 h2 (by omega) fun σ3 va hva hba hS3 => ?_
  have h3 := h2.same hS3 nofun
  have h3' := h2'.same hS3 nofun
  have hn3 := hS3.next
  obtain ⟨aa, ca, rfl, hca⟩ := hva.len
  have hvaF : ∀ b ∈ blks (.slice aa L.length ca), b ∉ F ∧ b ∉ F' := fun b hb => by have := hba b hb; exact ⟨fun q => by have := hF1 b q; omega, fun q => by have := hF2 b q; omega⟩
  simp (maxSteps := 2000000) only [B0, B1, B2, B3, B4, B5, B6, B7, Gd, extV, Nat.reduceLT, Nat.reduceEqDiff, Nat.reduceBEq, Nat.reduceAdd, Nat.reduceSub, Nat.reduceMul, ↓reduceIte, reduceCtorEq, if_true, if_false, ite_true, ite_false, Int.reduceLT, Int.reduceLE, ptr, callV_func Try.enters_18, callV_func Try.enters_26, callV_func Try.enters_19, callV_func Try.enters_24, Try.len_27, callV_func Try.enters_20, Try.ia_27, Try.ld_32, allocV_zero Try.zero_32, Try.st_32, Try.fa_32_1, Try.ld_2, callV_func Try.enters_25, rs_tmp (show Try.f4.results = #[.tmp 6] from rfl)]
  refine due_run f.toFree3 h3 lo (by omega) (by omega) fun σ4 vx h4 hvx hbx hS4 => ?_
  have h4' := h3'.same hS4 (fun b hb q => hFF b q hb)
  have hva4 := hva.same hS4 (fun b hb => (hvaF b hb).1)
  have hn4 := hS4.next
  have hll := left_len lo L
  obtain ⟨ax, cx, rfl, hcx⟩ := hvx.len
  have hvxF : ∀ b ∈ blks (.slice ax (due lo L).length cx), b ∉ F ∧ b ∉ F' := fun b hb => by have := hbx b hb; exact ⟨fun q => by have := hF1 b q; omega, fun q => by have := hF2 b q; omega⟩
  simp (maxSteps := 2000000) only [B0, B1, B2, B3, B4, B5, B6, B7, Gd, extV, Nat.reduceLT, Nat.reduceEqDiff, Nat.reduceBEq, Nat.reduceAdd, Nat.reduceSub, Nat.reduceMul, ↓reduceIte, reduceCtorEq, if_true, if_false, ite_true, ite_false, Int.reduceLT, Int.reduceLE, ptr, callV_func Try.enters_18, callV_func Try.enters_26, callV_func Try.enters_19, callV_func Try.enters_24, Try.len_27, callV_func Try.enters_20, Try.ia_27, Try.ld_32, allocV_zero Try.zero_32, Try.st_32, Try.fa_32_1, Try.ld_2, callV_func Try.enters_25, rs_tmp (show Try.f4.results = #[.tmp 6] from rfl)]
  refine due_run f.toFree3 h4 hi (by omega) (by omega) fun σ5 vy h5 hvy hby hS5 => ?_
  have h5' := h4'.same hS5 (fun b hb q => hFF b q hb)
  have hva5 := hva4.same hS5 (fun b hb => (hvaF b hb).1)
  have hvx5 := hvx.same hS5 (fun b hb => (hvxF b hb).1)
  have hn5 := hS5.next
  obtain ⟨ay, cy, rfl, hcy⟩ := hvy.len
  have hvxl := hvx.lt
  have hval := hva.lt
  have hvyF : ∀ b ∈ blks (.slice ay (due hi (left lo L)).length cy), b ∉ F ∧ b ∉ F' ∧ b ∉ blks (.slice ax (due lo L).length cx) := fun b hb => by have := hby b hb; exact ⟨fun q => by have := hF1 b q; omega, fun q => by have := hF2 b q; omega, fun q => by have := hvxl b q; omega⟩
  simp (maxSteps := 2000000) only [B0, B1, B2, B3, B4, B5, B6, B7, Gd, extV, Nat.reduceLT, Nat.reduceEqDiff, Nat.reduceBEq, Nat.reduceAdd, Nat.reduceSub, Nat.reduceMul, ↓reduceIte, reduceCtorEq, if_true, if_false, ite_true, ite_false, Int.reduceLT, Int.reduceLE, ptr, callV_func Try.enters_18, callV_func Try.enters_26, callV_func Try.enters_19, callV_func Try.enters_24, Try.len_27, callV_func Try.enters_20, Try.ia_27, Try.ld_32, allocV_zero Try.zero_32, Try.st_32, Try.fa_32_1, Try.ld_2, callV_func Try.enters_25, rs_tmp (show Try.f4.results = #[.tmp 6] from rfl)]
  refine due_run f.toFree3 h5' hi (by omega) (by omega) fun σ6 vz h6' hvz hbz hS6 => ?_
  have h6 := h5.same hS6 hFF
  have hva6 := hva5.same hS6 (fun b hb => (hvaF b hb).2)
  have hvx6 := hvx5.same hS6 (fun b hb => (hvxF b hb).2)
  have hvy6 := hvy.same hS6 (fun b hb => (hvyF b hb).2.1)
  have hn6 := hS6.next
  obtain ⟨az, cz, rfl, hcz⟩ := hvz.len
  have hvyl := hvy.lt
  have hvzF : ∀ b ∈ blks (.slice az (due hi L).length cz), b ∉ F ∧ b ∉ blks (.slice ax (due lo L).length cx) := fun b hb => by have := hbz b hb; exact ⟨fun q => by have := hF1 b q; omega, fun q => by have := hvxl b q; omega⟩
  obtain ⟨e1, e2⟩ := due_two hlh L
  have e3 := due_left hi L
  have hgt : ∀ x ∈ left hi L, hi < x.2 := fun x hx => left_mem hsrt hx
  obtain ⟨e4, e5⟩ := due_left_nil hgt
  have hlx : ∀ x ∈ due lo L, x.2 ≤ lo := fun x hx => due_mem hx
  have hlz : ∀ x ∈ due hi L, x.2 ≤ hi := fun x hx => due_mem hx
  have hly : ∀ x ∈ due hi (left lo L), lo < x.2 := fun x hx => left_mem hsrt ((List.takeWhile_sublist _).subset hx)
  rw [e2] at h6
  have n1 : (due lo L).length + (due hi (left lo L)).length = (due hi L).length := by rw [← e1, List.length_append]
  have n2 : (due hi L).length + (left hi L).length = L.length := by rw [← List.length_append, e3]
  generalize due lo L = X at *
  generalize due hi (left lo L) = Y at *
  generalize due hi L = Z at *
  generalize left hi L = R at *
  have hw1 : IntKind.i64.wrap ((X.length : Int) + (Y.length : Int)) = (Z.length : Int) := by rw [wrap64 (by omega) (by omega)]; omega
  have hw2 : IntKind.i64.wrap ((Z.length : Int) + (R.length : Int)) = (L.length : Int) := by rw [wrap64 (by omega) (by omega)]; omega
  simp (maxSteps := 2000000) only [B0, B1, B2, B3, B4, B5, B6, B7, Gd, extV, Nat.reduceLT, Nat.reduceEqDiff, Nat.reduceBEq, Nat.reduceAdd, Nat.reduceSub, Nat.reduceMul, ↓reduceIte, reduceCtorEq, if_true, if_false, ite_true, ite_false, Int.reduceLT, Int.reduceLE, ptr, callV_func Try.enters_18, callV_func Try.enters_26, callV_func Try.enters_19, callV_func Try.enters_24, Try.len_27, callV_func Try.enters_20, Try.ia_27, Try.ld_32, allocV_zero Try.zero_32, Try.st_32, Try.fa_32_1, Try.ld_2, callV_func Try.enters_25, hw1,  hw2,  len_h f.toFree h6,  len_h f.toFree h6', rs_tmp (show Try.f4.results = #[.tmp 6] from rfl)]
  refine due_run f.toFree3 h6 hi (by omega) (by omega) fun σ7 vd h7 hvd hbd hS7 => ?_
  rw [e4] at hvd
  rw [e5] at h7
  have hva7 := hva6.same hS7 (fun b hb => (hvaF b hb).1)
  have hvx7 := hvx6.same hS7 (fun b hb => (hvxF b hb).1)
  have hvy7 := hvy6.same hS7 (fun b hb => (hvyF b hb).1)
  have hvz7 := hvz.same hS7 (fun b hb => (hvzF b hb).1)
  have hn7 := hS7.next
  obtain ⟨ad, cd, rfl, hcd⟩ := hvd.len
  have hf7 := hvy7.first encOk
  obtain ⟨v8, σ8, t8, hv8, hS8, hb8⟩ := append_spec encOk hvx7 Y (by omega)
  have h8 := h7.same hS8 (fun b hb q => (hvxF b q).1 hb)
  have hva8 := hva7.same hS8 (fun b hb q => by have := hval b hb; have := hbx b q; omega)
  have hvz8 := hvz7.same hS8 (fun b hb => (hvzF b hb).2)
  have hn8 := hS8.next
  obtain ⟨a8, c8, rfl, hc8⟩ := hv8.len
  rw [e1] at hv8 t8
  simp (maxSteps := 2000000) only [B0, B1, B2, B3, B4, B5, B6, B7, Gd, extV, Nat.reduceLT, Nat.reduceEqDiff, Nat.reduceBEq, Nat.reduceAdd, Nat.reduceSub, Nat.reduceMul, ↓reduceIte, reduceCtorEq, if_true, if_false, ite_true, ite_false, Int.reduceLT, Int.reduceLE, ptr, callV_func Try.enters_18, callV_func Try.enters_26, callV_func Try.enters_19, callV_func Try.enters_24, Try.len_27, callV_func Try.enters_20, Try.ia_27, Try.ld_32, allocV_zero Try.zero_32, Try.st_32, Try.fa_32_1, Try.ld_2, callV_func Try.enters_25, hw1,  hw2,  len_h f.toFree h6,  len_h f.toFree h6',  append_eq Try.underlying27 Try.underlying27 Try.elem_32 hf7,  t8,  List.length_nil, rs_tmp (show Try.f4.results = #[.tmp 6] from rfl)]
  refine all_run f.toFree4 h8 (by omega) fun σ9 vr hvr hbr hS9 => ?_
  have hva9 := hva8.same hS9 nofun
  have hvz9 := hvz8.same hS9 nofun
  have hv9 := hv8.same hS9 nofun
  have hn9 := hS9.next
  obtain ⟨ar, cr, rfl, hcr⟩ := hvr.len
  have hf9 := hvr.first encOk
  obtain ⟨v10, σ10, t10', hv10, hS10, hb10⟩ := append_spec encOk hv9 R (by omega)
  have hb8' : ∀ b ∈ blks (.slice a8 Z.length c8), b ∈ blks (.slice ax X.length cx) ∨ σ7.next ≤ b := fun b hb => hb8 b (by rw [blks_sl a8 Z.length _ c8 c8] at hb; exact hb)
  have hvzl := hvz.lt
  have hva10 := hva9.same hS10 (fun b hb q => by
    have := hval b hb
    rcases hb8' b q with w | w
    · have := hbx b w; omega
    · omega)
  have hvz10 := hvz9.same hS10 (fun b hb q => by
    rcases hb8' b q with w | w
    · exact (hvzF b hb).2 w
    · have := hvzl b hb; omega)
  obtain ⟨a10, c10, rfl, hc10⟩ := hv10.len
  rw [e3] at hv10 t10'
  simp (maxSteps := 2000000) only [B0, B1, B2, B3, B4, B5, B6, B7, Gd, extV, Nat.reduceLT, Nat.reduceEqDiff, Nat.reduceBEq, Nat.reduceAdd, Nat.reduceSub, Nat.reduceMul, ↓reduceIte, reduceCtorEq, if_true, if_false, ite_true, ite_false, Int.reduceLT, Int.reduceLE, ptr, callV_func Try.enters_18, callV_func Try.enters_26, callV_func Try.enters_19, callV_func Try.enters_24, Try.len_27, callV_func Try.enters_20, Try.ia_27, Try.ld_32, allocV_zero Try.zero_32, Try.st_32, Try.fa_32_1, Try.ld_2, callV_func Try.enters_25, append_eq Try.underlying27 Try.underlying27 Try.elem_32 hf9,  t10', rs_tmp (show Try.f4.results = #[.tmp 6] from rfl)]
  have hS010 : Same σ σ10 [] := ((((((((g.same.app hS2).app hS3).app hS4).app hS5).app hS6).app hS7).app hS8).app hS9).app hS10 |>.old fun b hb => by
    simp only [List.nil_append, List.append_nil, List.mem_append] at hb
    have hn1 := g.same.next
    refine .inr ?_
    rcases hb with ((((hb | hb) | hb) | hb) | hb) | hb
    · exact g.low b hb
    · exact g.low b hb
    · have := hF' b hb; omega
    · exact g.low b hb
    · have := hbx b hb; omega
    · rcases hb8' b hb with w | w
      · have := hbx b w; omega
      · omega
  have hn10 := hS10.next
  refine W_inv (fun k fr σ' => ∃ (t : Tr Value) (i : Nat), fr = ⟨154, t⟩ ∧ t.get 1 = some (.int .i64 lo) ∧ t.get 2 = some (.int .i64 hi) ∧ t.get 10 = some (.slice aa L.length ca) ∧ t.get 11 = some (.slice ax X.length cx) ∧ t.get 13 = some (.slice az Z.length cz) ∧ t.get 77 = some (.slice a10 L.length c10) ∧ t.get 78 = some (.int .i64 (L.length : Int)) ∧ t.get 79 = some (.int .i64 (i : Int)) ∧ k + i = L.length ∧ Same σ10 σ' []) L.length (by omega)
    ⟨_, 0, rfl, by simp [get_put, get_args], by simp [get_put, get_args], by simp [get_put], by simp [get_put], by simp [get_put], by simp [get_put], by simp [get_put], by simp [get_put], rfl, .refl _ _⟩ ?_
  rintro k fr σ11 ⟨t, i, rfl, t1, t2, t10, t11, t13, t77, t78, t79, hk, hS11⟩
  have hn11 := hS11.next
  by_cases hlt : i < L.length
  · have hx := List.getElem?_eq_getElem hlt
    have hxL : L[i]? = (Z ++ R)[i]? := by rw [e3]
    have hzx : i < Z.length → Z[i]? = L[i]? := fun q => by rw [hxL, List.getElem?_append_left q]
    have hx2 : i < Z.length → L[i].2 ≤ hi := fun q => hlz _ (List.mem_of_getElem? (i := i) (by rw [hzx q, hx]))
    have hx3 : ¬ i < Z.length → hi < L[i].2 := fun q => by
      rw [hx, List.getElem?_append_right (by omega)] at hxL
      exact hgt _ (List.mem_of_getElem? hxL.symm)
    have hx1 : i < X.length → L[i].2 ≤ lo := fun q => by
      have h1 := hzx (by omega)
      rw [hx, ← e1, List.getElem?_append_left q] at h1
      exact hlx _ (List.mem_of_getElem? h1)
    have hx4 : ¬ i < X.length → i < Z.length → lo < L[i].2 := fun q q2 => by
      have h1 := hzx q2
      rw [hx, ← e1, List.getElem?_append_right (by omega)] at h1
      exact hly _ (List.mem_of_getElem? h1)
    rw [hx] at hzx
    generalize L[i] = x at hx hx1 hx2 hx3 hx4 hzx
    obtain ⟨b, o, cap, g0, e, hb, hbl, hr⟩ := (hv10.same hS11 nofun).at_ hx
    injection e with e _ e9
    subst e e9
    have hld := hr.ldCells encOk hx
    obtain ⟨σ12, σ13, e12, t13', hS13, hv13, hn13, _⟩ := AE.newVar σ11 32 [.string ⟨#[]⟩, .int .i64 0] (encA x) rfl (encA_single x)
    have hS1013 := hS11.trans hS13 nofun
    obtain ⟨b3, o3, cap3, gg3, e, hb3, hbl3, hr3⟩ := (hva10.same hS1013 nofun).at_ hx
    injection e with e _ e9
    subst e e9
    have hld3 := hr3.ldCells encOk hx
    have hlw : ldCells σ13 σ11.next 0 2 = some (encA x) := hv13.ldCells
    have y1 : ld σ13 σ11.next 1 = some (.int .i64 x.2) := hv13.ld rfl
    simp only [encA] at hld hld3 t13' hlw
    have bq : ∀ {u z}, bin Try.prog .neq 32 u z (.agg #[.string x.1, .int .i64 x.2]) (.agg #[.string x.1, .int .i64 x.2]) = some (.bool false) := by
      intro u z; have := bin_al_ne (x := u) (y := z) (a := x) (b := x); simpa [alV] using this
    have hlt' : (i : Int) < (L.length : Int) := by omega
    have hwi : IntKind.i64.wrap ((i : Int) + 1) = ((i + 1 : Nat) : Int) := wrap64 (by omega) (by omega)
    by_cases qz : i < Z.length
    · obtain ⟨b4, o4, cap4, gg4, e, hb4, hbl4, hr4⟩ := (hvz10.same hS1013 nofun).at_ (hzx qz)
      injection e with e _ e9
      subst e e9
      have hld4 := hr4.ldCells encOk (hzx qz)
      simp only [encA] at hld4
      have c1 : ((i : Int) < (Z.length : Int)) = True := eq_true (by omega)
      have c2 : (hi < x.2) = False := eq_false (by have := hx2 qz; omega)
      have c3 : ((Z.length : Int) ≤ (i : Int)) = False := eq_false (by omega)
      by_cases qx : i < X.length
      · have c4 : ((i : Int) < (X.length : Int)) = True := eq_true (by omega)
        have c5 : (lo < x.2) = False := eq_false (by have := hx1 qx; omega)
        have c6 : ((X.length : Int) ≤ (i : Int)) = False := eq_false (by omega)
        simp (maxSteps := 2000000) only [B0, B1, B2, B3, B4, B5, B6, B7, Gd, extV, Nat.reduceLT, Nat.reduceEqDiff, Nat.reduceBEq, Nat.reduceAdd, Nat.reduceSub, Nat.reduceMul, ↓reduceIte, reduceCtorEq, if_true, if_false, ite_true, ite_false, Int.reduceLT, Int.reduceLE, ptr, callV_func Try.enters_18, callV_func Try.enters_26, callV_func Try.enters_19, callV_func Try.enters_24, Try.len_27, callV_func Try.enters_20, Try.ia_27, Try.ld_32, allocV_zero Try.zero_32, Try.st_32, Try.fa_32_1, Try.ld_2, callV_func Try.enters_25, hld4,  qz,  c1,  c2,  c3,  c4,  c5,  c6, t1,  t2,  t10,  t11,  t13,  t77,  t78,  t79,  hlt',  hlt,  hld,  e12,  t13',  Value.cells,  List.size_toArray,  hld3,  hlw,  y1,  bq,  hwi,  KInv_normal, rs_tmp (show Try.f4.results = #[.tmp 6] from rfl)]
        exact ⟨L.length - (i + 1), by omega, _, i + 1, rfl, by simp [get_put, t1], by simp [get_put, t2], by simp [get_put, t10], by simp [get_put, t11], by simp [get_put, t13], by simp [get_put, t77], by simp [get_put, t78], by simp [get_put], by omega, hS1013⟩
      · have c4 : ((i : Int) < (X.length : Int)) = False := eq_false (by omega)
        have c5 : (x.2 ≤ lo) = False := eq_false (by have := hx4 qx qz; omega)
        have c6 : ((X.length : Int) ≤ (i : Int)) = True := eq_true (by omega)
        simp (maxSteps := 2000000) only [B0, B1, B2, B3, B4, B5, B6, B7, Gd, extV, Nat.reduceLT, Nat.reduceEqDiff, Nat.reduceBEq, Nat.reduceAdd, Nat.reduceSub, Nat.reduceMul, ↓reduceIte, reduceCtorEq, if_true, if_false, ite_true, ite_false, Int.reduceLT, Int.reduceLE, ptr, callV_func Try.enters_18, callV_func Try.enters_26, callV_func Try.enters_19, callV_func Try.enters_24, Try.len_27, callV_func Try.enters_20, Try.ia_27, Try.ld_32, allocV_zero Try.zero_32, Try.st_32, Try.fa_32_1, Try.ld_2, callV_func Try.enters_25, hld4,  qz,  c1,  c2,  c3,  c4,  c5,  c6, t1,  t2,  t10,  t11,  t13,  t77,  t78,  t79,  hlt',  hlt,  hld,  e12,  t13',  Value.cells,  List.size_toArray,  hld3,  hlw,  y1,  bq,  hwi,  KInv_normal, rs_tmp (show Try.f4.results = #[.tmp 6] from rfl)]
        exact ⟨L.length - (i + 1), by omega, _, i + 1, rfl, by simp [get_put, t1], by simp [get_put, t2], by simp [get_put, t10], by simp [get_put, t11], by simp [get_put, t13], by simp [get_put, t77], by simp [get_put, t78], by simp [get_put], by omega, hS1013⟩
    · have c1 : ((i : Int) < (Z.length : Int)) = False := eq_false (by omega)
      have c2 : (x.2 ≤ hi) = False := eq_false (by have := hx3 qz; omega)
      have c3 : ((Z.length : Int) ≤ (i : Int)) = True := eq_true (by omega)
      have c4 : ((i : Int) < (X.length : Int)) = False := eq_false (by omega)
      have c6 : ((X.length : Int) ≤ (i : Int)) = True := eq_true (by omega)
      simp (maxSteps := 2000000) only [B0, B1, B2, B3, B4, B5, B6, B7, Gd, extV, Nat.reduceLT, Nat.reduceEqDiff, Nat.reduceBEq, Nat.reduceAdd, Nat.reduceSub, Nat.reduceMul, ↓reduceIte, reduceCtorEq, if_true, if_false, ite_true, ite_false, Int.reduceLT, Int.reduceLE, ptr, callV_func Try.enters_18, callV_func Try.enters_26, callV_func Try.enters_19, callV_func Try.enters_24, Try.len_27, callV_func Try.enters_20, Try.ia_27, Try.ld_32, allocV_zero Try.zero_32, Try.st_32, Try.fa_32_1, Try.ld_2, callV_func Try.enters_25, c1,  c2,  c3,  c4,  c6, t1,  t2,  t10,  t11,  t13,  t77,  t78,  t79,  hlt',  hlt,  hld,  e12,  t13',  Value.cells,  List.size_toArray,  hld3,  hlw,  y1,  bq,  hwi,  KInv_normal, rs_tmp (show Try.f4.results = #[.tmp 6] from rfl)]
      exact ⟨L.length - (i + 1), by omega, _, i + 1, rfl, by simp [get_put, t1], by simp [get_put, t2], by simp [get_put, t10], by simp [get_put, t11], by simp [get_put, t13], by simp [get_put, t77], by simp [get_put, t78], by simp [get_put], by omega, hS1013⟩
  · have hlt' : ((i : Int) < (L.length : Int)) = False := eq_false (by omega)
    simp (maxSteps := 2000000) only [B0, B1, B2, B3, B4, B5, B6, B7, Gd, extV, Nat.reduceLT, Nat.reduceEqDiff, Nat.reduceBEq, Nat.reduceAdd, Nat.reduceSub, Nat.reduceMul, ↓reduceIte, reduceCtorEq, if_true, if_false, ite_true, ite_false, Int.reduceLT, Int.reduceLE, ptr, callV_func Try.enters_18, callV_func Try.enters_26, callV_func Try.enters_19, callV_func Try.enters_24, Try.len_27, callV_func Try.enters_20, Try.ia_27, Try.ld_32, allocV_zero Try.zero_32, Try.st_32, Try.fa_32_1, Try.ld_2, callV_func Try.enters_25, t1,  t2,  t10,  t11,  t13,  t77,  t78,  t79,  hlt', rs_tmp (show Try.f4.results = #[.tmp 6] from rfl)]
    refine tells_run f (by omega) fun σ12 hS12 => ?_
    simp (maxSteps := 2000000) only [B0, B1, B2, B3, B4, B5, B6, B7, Gd, extV, Nat.reduceLT, Nat.reduceEqDiff, Nat.reduceBEq, Nat.reduceAdd, Nat.reduceSub, Nat.reduceMul, ↓reduceIte, reduceCtorEq, if_true, if_false, ite_true, ite_false, Int.reduceLT, Int.reduceLE, ptr, callV_func Try.enters_18, callV_func Try.enters_26, callV_func Try.enters_19, callV_func Try.enters_24, Try.len_27, callV_func Try.enters_20, Try.ia_27, Try.ld_32, allocV_zero Try.zero_32, Try.st_32, Try.fa_32_1, Try.ld_2, callV_func Try.enters_25, rs_tmp (show Try.f4.results = #[.tmp 6] from rfl)]
    exact hQ _ ((hS010.trans hS11 nofun).trans hS12 nofun)
end Go.Proofs.Ytongccpmdndcgaa.Alm
end
/- The alarms' laws: the table of contracts, and what came in. -/
section
set_option linter.all false
namespace Go.Proofs.Ytongccpmdndcgaa.Alm
open Go Go.AE Go.Hp Go.Sort Go.Proofs Go.RowKit Go.ChangeShapes
set_option maxRecDepth 100000

def table : List (FuncId × (List Value → AHeap → Option (Value × AHeap))) := [(101, sortFO 2 decA encA srtA 102), (104, cloneO)]
theorem told : OrcS False Try.prog [] (orcs table) := .cons sort_told (.cons (.clone (fun b es clock w hb => AnyW.maps_Clone Try.clone104 b es clock w hb) (fun w => AnyW.maps_Clone_nil Try.clone104 w)) .nil)
theorem free : Free6 (orcs table) := { h102 := rfl, h151 := rfl, h152 := rfl, h153 := rfl, h185 := rfl, h186 := rfl, h234 := rfl, h235 := rfl, h236 := rfl, h237 := rfl, h20 := rfl, h99 := rfl, h154 := rfl, h156 := rfl, h103 := rfl, h105 := rfl, h106 := rfl, h107 := rfl, h19 := rfl, h22 := rfl, h23 := rfl, h24 := rfl, h26 := rfl, h27 := rfl, h28 := rfl, h30 := rfl, h100 := rfl, o101 := rfl, o104 := rfl, h18 := rfl, h25 := rfl, h21 := rfl, h3 := rfl, h4 := rfl, h5 := rfl }
instance : Inhabited Cl := ⟨(0, ⟨#[]⟩, 0)⟩
theorem encC_atom (x : Cl) : ∀ v ∈ encC x, atom v = true := by intro v hv; simp [encC] at hv; rcases hv with rfl | rfl | rfl <;> rfl
theorem c47 : Try.prog.cellsOf 47 = 3 := by kernel_rfl
theorem decC {H : Type} {enc : TypeId × Value → H} {w : World} {held : Bool} {sp : Nat → Bool} (m : Nat) (cs : List Value) (y : DataW H × List MemPlace) (h : DataW.trod enc Try.prog w 0 sp held m 47 cs = some y) : ∃ z : Cl, cs = encC z := by
  obtain ⟨y0, y1, y2, n, _, hl, h0, h1, h2⟩ := Go.Deep.trod_struct3 Try.underlying47 h
  rw [c47] at hl
  match cs, hl with
  | [u0, u1, u2], _ =>
    obtain ⟨a, e0, _⟩ := DataW.trod_int Try.underlying3 h0
    obtain ⟨s, e1, _⟩ := DataW.trod_string Try.underlying9 h1
    obtain ⟨b, e2, _⟩ := DataW.trod_int Try.underlying2 h2
    have k3 : Try.prog.cellsOf 3 = 1 := by kernel_rfl
    have k9 : Try.prog.cellsOf 9 = 1 := by kernel_rfl
    have k2 : Try.prog.cellsOf 2 = 1 := by kernel_rfl
    simp [k3, k9, k2] at e0 e1 e2
    subst e0 e1 e2
    exact ⟨(a, s, b), rfl⟩
theorem order_law {H : Type} {enc : TypeId × Value → H} {w : World} {held : Bool} {a : Option Addr} {len cap : Nat} {d : DataW H} {ps : List MemPlace} (h : DataW.Trod enc Try.prog w 0 (fun _ => true) held 22 (.slice a len cap) d ps) :
    Calls Try.prog 3 #[.slice a len cap] w fun e w' => e = .returned (.bool true) ∧ Below w.heap.size w w' := by
  obtain ⟨σ, ρ, v, L, hR, hv, hs, hro⟩ := slice_arg encCOk encC_atom Try.underlying22 c47 decC h
  exact open_true (by kernel_rfl) told hR hro (.cons hv .nil) (inOrder_run free hs (n := 200) (by omega) fun _ _ => rfl)
theorem twice_law {H : Type} {enc : TypeId × Value → H} {w : World} {held : Bool} {a : Option Addr} {len cap : Nat} {d : DataW H} {ps : List MemPlace} (h : DataW.Trod enc Try.prog w 0 (fun _ => true) held 22 (.slice a len cap) d ps) (one two : Int) :
    Calls Try.prog 4 #[.slice a len cap, .int .i64 one, .int .i64 two] w fun e w' => e = .returned (.bool true) ∧ Below w.heap.size w w' := by
  obtain ⟨σ, ρ, v, L, hR, hv, hs, hro⟩ := slice_arg encCOk encC_atom Try.underlying22 c47 decC h
  exact open_true (by kernel_rfl) told hR hro (.cons hv (.cons (.atom rfl) (.cons (.atom rfl) .nil))) (twice_run free hs (n := 200) (by omega) fun _ _ => rfl)
end Go.Proofs.Ytongccpmdndcgaa.Alm
end
