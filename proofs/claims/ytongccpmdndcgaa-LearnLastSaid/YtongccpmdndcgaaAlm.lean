/- Texts of this proof, gathered. What each part says stands at its head; conditions: none but those that its theorems name. -/
import Derived.Test.YtongccpmdndcgaaE4
import Derived.Test.YtongccpmdndcgaaFac
import Derived.Test.YtongccpmdndcgaaShelf
/- Heaps: plain laws on a binary heap given by a function on places. -/
section
set_option linter.all false
namespace Go.Hp
variable {α : Type}

/-- An order without equals. -/
structure Ord (lt : α → α → Prop) : Prop where
  tr : ∀ a b c, ¬ lt b a → ¬ lt c b → ¬ lt c a
  asy : ∀ a b, lt a b → ¬ lt b a

def sw (f : Nat → α) (i j : Nat) : Nat → α := fun k => if k = i then f j else if k = j then f i else f k
def Heap (lt : α → α → Prop) (f : Nat → α) (n : Nat) : Prop := ∀ j, 0 < j → j < n → ¬ lt (f j) (f ((j - 1) / 2))
/-- A heap but at k. -/
def Exc (lt : α → α → Prop) (f : Nat → α) (n k : Nat) : Prop :=
  (∀ j, 0 < j → j < n → j ≠ k → (j - 1) / 2 ≠ k → ¬ lt (f j) (f ((j - 1) / 2))) ∧ (0 < k → ∀ c, 0 < c → c < n → (c - 1) / 2 = k → ¬ lt (f c) (f ((k - 1) / 2)))
def Kids (lt : α → α → Prop) (f : Nat → α) (n k : Nat) : Prop := ∀ c, 0 < c → c < n → (c - 1) / 2 = k → ¬ lt (f c) (f k)
def Par (lt : α → α → Prop) (f : Nat → α) (k : Nat) : Prop := 0 < k → ¬ lt (f k) (f ((k - 1) / 2))
variable {lt : α → α → Prop}

theorem heap_of {f : Nat → α} {n k : Nat} (h : Exc lt f n k) (hk : Kids lt f n k) (hp : Par lt f k) : Heap lt f n := by
  intro j h0 h1
  by_cases e : j = k
  · subst e; exact hp h0
  · by_cases e2 : (j - 1) / 2 = k
    · rw [e2]; exact hk j h0 h1 e2
    · exact h.1 j h0 h1 e e2

/-- One step up. -/
theorem up_step (o : Ord lt) {f : Nat → α} {n k : Nat} (h : Exc lt f n k) (hk : Kids lt f n k) (hn : k < n) (h0 : 0 < k) (hl : lt (f k) (f ((k - 1) / 2))) :
    Exc lt (sw f ((k - 1) / 2) k) n ((k - 1) / 2) ∧ Kids lt (sw f ((k - 1) / 2) k) n ((k - 1) / 2) := by
  have hi : (k - 1) / 2 < k := by omega
  refine ⟨⟨fun j j0 jn e1 e2 => ?_, fun i0 c c0 cn ec => ?_⟩, fun c c0 cn ec => ?_⟩
  · unfold sw
    rw [if_neg e1, if_neg e2]
    by_cases e3 : j = k
    · subst e3; exact absurd rfl e2
    · rw [if_neg e3]
      by_cases e4 : (j - 1) / 2 = k
      · rw [if_pos e4]; exact h.2 h0 j j0 jn e4
      · rw [if_neg e4]; exact h.1 j j0 jn e3 e4
  · unfold sw
    have e5 : ¬ ((k - 1) / 2 - 1) / 2 = (k - 1) / 2 := by omega
    have e6 : ¬ ((k - 1) / 2 - 1) / 2 = k := by omega
    rw [if_neg e5, if_neg e6]
    have hg : ¬ lt (f ((k - 1) / 2)) (f (((k - 1) / 2 - 1) / 2)) := h.1 _ i0 (by omega) (by omega) (by omega)
    by_cases e3 : c = k
    · subst e3; rw [if_neg (by omega), if_pos rfl]; exact hg
    · rw [if_neg (by omega), if_neg e3]
      exact o.tr _ _ _ hg (ec ▸ h.1 c c0 cn e3 (by omega))
  · unfold sw
    rw [if_pos rfl]
    by_cases e3 : c = k
    · subst e3; rw [if_neg (by omega), if_pos rfl]; exact o.asy _ _ hl
    · rw [if_neg (by omega), if_neg e3]
      exact o.tr _ _ _ (o.asy _ _ hl) (ec ▸ h.1 c c0 cn e3 (by omega))

/-- One step down. -/
theorem down_step (o : Ord lt) {f : Nat → α} {n i j : Nat} (h : Exc lt f n i) (hj : j = 2 * i + 1 ∨ j = 2 * i + 2) (hn : j < n)
    (hmin : ∀ c, c = 2 * i + 1 ∨ c = 2 * i + 2 → c < n → ¬ lt (f c) (f j)) (hl : lt (f j) (f i)) :
    Exc lt (sw f i j) n j ∧ Par lt (sw f i j) j := by
  refine ⟨⟨fun c c0 cn e1 e2 => ?_, fun _ c c0 cn ec => ?_⟩, fun _ => ?_⟩
  · unfold sw
    rw [if_neg e1, if_neg e2]
    by_cases e3 : c = i
    · subst e3
      rw [if_pos rfl, if_neg (by omega)]
      exact h.2 c0 j (by omega) hn (by omega)
    · rw [if_neg e3]
      by_cases e4 : (c - 1) / 2 = i
      · rw [if_pos e4]; exact hmin c (by omega) cn
      · rw [if_neg e4]; exact h.1 c c0 cn e3 e4
  · unfold sw
    have e5 : (j - 1) / 2 = i := by omega
    rw [e5, if_pos rfl, if_neg (by omega), if_neg (by omega)]
    exact ec ▸ h.1 c c0 cn (by omega) (by omega)
  · unfold sw
    have e5 : (j - 1) / 2 = i := by omega
    rw [e5, if_pos rfl, if_neg (by omega), if_pos rfl]
    exact o.asy _ _ hl
/-- What is put for another one. -/
theorem exc_of (o : Ord lt) {f : Nat → α} {n m k : Nat} {g : Nat → α} (h : Heap lt f n) (hm : m ≤ n) (hk : k < n) (hg : ∀ i, i < m → i ≠ k → g i = f i) : Exc lt g m k := by
  refine ⟨fun j j0 jm e1 e2 => ?_, fun k0 c c0 cm ec => ?_⟩
  · rw [hg j jm e1, hg _ (by omega) e2]; exact h j j0 (by omega)
  · rw [hg c cm (by omega), hg _ (by omega) (by omega)]
    exact o.tr _ _ _ (h k k0 hk) (ec ▸ h c c0 (by omega))
theorem heap_min (o : Ord lt) {f : Nat → α} {n : Nat} (h : Heap lt f n) (hr : ∀ a, ¬ lt a a) : ∀ j, j < n → ¬ lt (f j) (f 0) := by
  intro j
  induction j using Nat.strongRecOn with
  | ind j ih =>
    intro hj
    by_cases e : j = 0
    · subst e; exact hr _
    · exact o.tr _ _ _ (ih _ (by omega) (by omega)) (h j (by omega) hj)
end Go.Hp
end
/- The alarms' order, as the evaluator runs it. -/
section
set_option linter.all false
namespace Go.Proofs.Ytongccpmdndcgaa.Alm
open Go Go.AE
set_option maxRecDepth 100000
variable {gs : List Nat} {orc : Orc} {n : Nat} {σ : AHeap} {Q : Value × AHeap → Prop}

theorem isNaN_int (ho : orc 185 = none) {x : Int} : W (acall Try.prog gs orc (n + 1) 185 [.int .i64 x] σ) Q = Q (.bool false, σ) := by
  rw [W_start (m := 6) (keep := []) Try.func185 rfl (by kernel_rfl) (by kernel_rfl) (by first | rfl | assumption | exact f.h185) (by rfl)]
  simp (maxSteps := 2000000) only [B0, B1, B2, B3, B4, B5, B6, B7, Gd, extV, Nat.reduceLT, Nat.reduceEqDiff, Nat.reduceBEq, Nat.reduceAdd, Nat.reduceSub, Nat.reduceMul, ↓reduceIte, reduceCtorEq, if_true, if_false, ite_true, ite_false, Int.reduceLT, Int.reduceLE, ptr, rs_tmp (show Try.f185.results = #[.tmp 2] from rfl)]
theorem isNaN_str (ho : orc 186 = none) {x : ByteArray} : W (acall Try.prog gs orc (n + 1) 186 [.string x] σ) Q = Q (.bool false, σ) := by
  rw [W_start (m := 6) (keep := []) Try.func186 rfl (by kernel_rfl) (by kernel_rfl) (by first | rfl | assumption | exact f.h186) (by rfl)]
  simp (maxSteps := 2000000) only [B0, B1, B2, B3, B4, B5, B6, B7, Gd, extV, Nat.reduceLT, Nat.reduceEqDiff, Nat.reduceBEq, Nat.reduceAdd, Nat.reduceSub, Nat.reduceMul, ↓reduceIte, reduceCtorEq, if_true, if_false, ite_true, ite_false, Int.reduceLT, Int.reduceLE, ptr, rs_tmp (show Try.f186.results = #[.tmp 2] from rfl)]
def cmpI (x y : Int) : Int := if x < y then -1 else if y < x then 1 else 0
def cmpS (x y : ByteArray) : Int := if sLt x y then -1 else if sLt x y || decide (x = y) then 0 else 1
theorem compare_int (ho : orc 152 = none) (ho2 : orc 185 = none) {x y : Int} : W (acall Try.prog gs orc (n + 2) 152 [.int .i64 x, .int .i64 y] σ) Q = Q (.int .i64 (cmpI x y), σ) := by
  rw [W_start (m := 20) (keep := []) Try.func152 rfl (by kernel_rfl) (by kernel_rfl) (by first | rfl | assumption | exact f.h152) (by rfl)]
  simp (maxSteps := 2000000) only [B0, B1, B2, B3, B4, B5, B6, B7, Gd, extV, Nat.reduceLT, Nat.reduceEqDiff, Nat.reduceBEq, Nat.reduceAdd, Nat.reduceSub, Nat.reduceMul, ↓reduceIte, reduceCtorEq, if_true, if_false, ite_true, ite_false, Int.reduceLT, Int.reduceLE, ptr, callV_func Try.enters_185, callV_func Try.enters_185,  List.append_nil,  isNaN_int ho2, rs_tmp (show Try.f152.results = #[.tmp 4] from rfl)]
  unfold cmpI
  by_cases h1 : x < y
  · simp (maxSteps := 2000000) only [B0, B1, B2, B3, B4, B5, B6, B7, Gd, extV, Nat.reduceLT, Nat.reduceEqDiff, Nat.reduceBEq, Nat.reduceAdd, Nat.reduceSub, Nat.reduceMul, ↓reduceIte, reduceCtorEq, if_true, if_false, ite_true, ite_false, Int.reduceLT, Int.reduceLE, ptr, callV_func Try.enters_185, h1, rs_tmp (show Try.f152.results = #[.tmp 4] from rfl)]
  · by_cases h2 : y < x
    · simp (maxSteps := 2000000) only [B0, B1, B2, B3, B4, B5, B6, B7, Gd, extV, Nat.reduceLT, Nat.reduceEqDiff, Nat.reduceBEq, Nat.reduceAdd, Nat.reduceSub, Nat.reduceMul, ↓reduceIte, reduceCtorEq, if_true, if_false, ite_true, ite_false, Int.reduceLT, Int.reduceLE, ptr, callV_func Try.enters_185, h1,  h2, rs_tmp (show Try.f152.results = #[.tmp 4] from rfl)]
    · simp (maxSteps := 2000000) only [B0, B1, B2, B3, B4, B5, B6, B7, Gd, extV, Nat.reduceLT, Nat.reduceEqDiff, Nat.reduceBEq, Nat.reduceAdd, Nat.reduceSub, Nat.reduceMul, ↓reduceIte, reduceCtorEq, if_true, if_false, ite_true, ite_false, Int.reduceLT, Int.reduceLE, ptr, callV_func Try.enters_185, h1,  h2, rs_tmp (show Try.f152.results = #[.tmp 4] from rfl)]
theorem compare_str (ho : orc 153 = none) (ho2 : orc 186 = none) {x y : ByteArray} : W (acall Try.prog gs orc (n + 2) 153 [.string x, .string y] σ) Q = Q (.int .i64 (cmpS x y), σ) := by
  rw [W_start (m := 20) (keep := []) Try.func153 rfl (by kernel_rfl) (by kernel_rfl) (by first | rfl | assumption | exact f.h153) (by rfl)]
  simp (maxSteps := 2000000) only [B0, B1, B2, B3, B4, B5, B6, B7, Gd, extV, Nat.reduceLT, Nat.reduceEqDiff, Nat.reduceBEq, Nat.reduceAdd, Nat.reduceSub, Nat.reduceMul, ↓reduceIte, reduceCtorEq, if_true, if_false, ite_true, ite_false, Int.reduceLT, Int.reduceLE, ptr, callV_func Try.enters_186, callV_func Try.enters_186,  isNaN_str ho2, rs_tmp (show Try.f153.results = #[.tmp 4] from rfl)]
  unfold cmpS
  cases h1 : sLt x y
  · by_cases h2 : x = y
    · simp (maxSteps := 2000000) only [B0, B1, B2, B3, B4, B5, B6, B7, Gd, extV, Nat.reduceLT, Nat.reduceEqDiff, Nat.reduceBEq, Nat.reduceAdd, Nat.reduceSub, Nat.reduceMul, ↓reduceIte, reduceCtorEq, if_true, if_false, ite_true, ite_false, Int.reduceLT, Int.reduceLE, ptr, callV_func Try.enters_186, h1,  h2,  Bool.or_true,  Bool.false_or, rs_tmp (show Try.f153.results = #[.tmp 4] from rfl)]
    · simp (maxSteps := 2000000) only [B0, B1, B2, B3, B4, B5, B6, B7, Gd, extV, Nat.reduceLT, Nat.reduceEqDiff, Nat.reduceBEq, Nat.reduceAdd, Nat.reduceSub, Nat.reduceMul, ↓reduceIte, reduceCtorEq, if_true, if_false, ite_true, ite_false, Int.reduceLT, Int.reduceLE, ptr, callV_func Try.enters_186, h1,  h2,  Bool.or_false,  Bool.false_or, rs_tmp (show Try.f153.results = #[.tmp 4] from rfl)]
  · simp (maxSteps := 2000000) only [B0, B1, B2, B3, B4, B5, B6, B7, Gd, extV, Nat.reduceLT, Nat.reduceEqDiff, Nat.reduceBEq, Nat.reduceAdd, Nat.reduceSub, Nat.reduceMul, ↓reduceIte, reduceCtorEq, if_true, if_false, ite_true, ite_false, Int.reduceLT, Int.reduceLE, ptr, callV_func Try.enters_186, h1, rs_tmp (show Try.f153.results = #[.tmp 4] from rfl)]
/-- The first that is not 0. -/
theorem or_two (ho : orc 151 = none) {b : Nat} {x y : Int} (h0 : ld σ b 0 = some (.int .i64 x)) (h1 : ld σ b 1 = some (.int .i64 y)) : W (acall Try.prog gs orc (n + 4) 151 [.slice (some ⟨b, 0, none⟩) 2 2] σ) Q = Q (.int .i64 (if x = 0 then y else x), σ) := by
  rw [W_start (m := 18) (keep := []) Try.func151 rfl (by kernel_rfl) (by kernel_rfl) (by first | rfl | assumption | exact f.h151) (by rfl)]
  by_cases hx : x = 0
  · by_cases hy : y = 0
    · simp (maxSteps := 2000000) only [B0, B1, B2, B3, B4, B5, B6, B7, Gd, extV, Nat.reduceLT, Nat.reduceEqDiff, Nat.reduceBEq, Nat.reduceAdd, Nat.reduceSub, Nat.reduceMul, ↓reduceIte, reduceCtorEq, if_true, if_false, ite_true, ite_false, Int.reduceLT, Int.reduceLE, ptr, Try.len_266, Try.ia_266, Try.ld_3, W_loop_unfold,  Try.len_266,  Try.ia_266,  Try.ld_3,  h0,  h1,  hx,  hy, rs_tmp (show Try.f151.results = #[.tmp 2] from rfl)]
    · simp (maxSteps := 2000000) only [B0, B1, B2, B3, B4, B5, B6, B7, Gd, extV, Nat.reduceLT, Nat.reduceEqDiff, Nat.reduceBEq, Nat.reduceAdd, Nat.reduceSub, Nat.reduceMul, ↓reduceIte, reduceCtorEq, if_true, if_false, ite_true, ite_false, Int.reduceLT, Int.reduceLE, ptr, Try.len_266, Try.ia_266, Try.ld_3, W_loop_unfold,  Try.len_266,  Try.ia_266,  Try.ld_3,  h0,  h1,  hx,  hy, rs_tmp (show Try.f151.results = #[.tmp 2] from rfl)]
  · simp (maxSteps := 2000000) only [B0, B1, B2, B3, B4, B5, B6, B7, Gd, extV, Nat.reduceLT, Nat.reduceEqDiff, Nat.reduceBEq, Nat.reduceAdd, Nat.reduceSub, Nat.reduceMul, ↓reduceIte, reduceCtorEq, if_true, if_false, ite_true, ite_false, Int.reduceLT, Int.reduceLE, ptr, Try.len_266, Try.ia_266, Try.ld_3, W_loop_unfold,  Try.len_266,  Try.ia_266,  Try.ld_3,  h0,  h1,  hx, rs_tmp (show Try.f151.results = #[.tmp 2] from rfl)]
abbrev Al := ByteArray × Int
def ordI (x y : Al) : Int := if cmpI x.2 y.2 = 0 then cmpS x.1 y.1 else cmpI x.2 y.2
def alV (x : Al) : Value := .agg #[.string x.1, .int .i64 x.2]
theorem bs266 {τ : AHeap} {x y : Int} : buildSliceV Try.prog 266 2 [(0, .int .i64 x), (1, .int .i64 y)] τ = some (.slice (some ⟨τ.next, 0, none⟩) 2 2, (newCells τ 3 [.int .i64 x, .int .i64 y]).2) := bs_two Try.underlying266 Try.elem_3 rfl rfl
theorem order_run (h102 : orc 102 = none) (h151 : orc 151 = none) (h152 : orc 152 = none) (h153 : orc 153 = none) (h185 : orc 185 = none) (h186 : orc 186 = none) {x y : Al} (hQ : ∀ σ', Same σ σ' [] → Q (.int .i64 (ordI x y), σ')) :
    W (acall Try.prog gs orc (n + 5) 102 [alV x, alV y] σ) Q := by
  rw [W_start (m := 17) (keep := [1]) Try.func102 rfl (by kernel_rfl) (by kernel_rfl) (by first | rfl | assumption | exact f.h102) (by rfl)]
  simp (maxSteps := 2000000) only [B0, B1, B2, B3, B4, B5, B6, B7, Gd, extV, Nat.reduceLT, Nat.reduceEqDiff, Nat.reduceBEq, Nat.reduceAdd, Nat.reduceSub, Nat.reduceMul, ↓reduceIte, reduceCtorEq, if_true, if_false, ite_true, ite_false, Int.reduceLT, Int.reduceLE, ptr, Try.fa_32_1, Try.ld_2, callV_func Try.enters_152, Try.fa_32_0, Try.ld_9, callV_func Try.enters_153, callV_func Try.enters_151, alV,  Value.cells, rs_tmp (show Try.f102.results = #[.tmp 4] from rfl)]
  refine Eq.mpr (W_retold (ps := [(4, 6), (4, 8)]) ?h1 ?h2 (by simp)) ?h3
  case h1 => kernel_rfl
  case h2 => kernel_rfl
  simp (maxSteps := 2000000) only [B0, B1, B2, B3, B4, B5, B6, B7, Gd, extV, Nat.reduceLT, Nat.reduceEqDiff, Nat.reduceBEq, Nat.reduceAdd, Nat.reduceSub, Nat.reduceMul, ↓reduceIte, reduceCtorEq, if_true, if_false, ite_true, ite_false, Int.reduceLT, Int.reduceLE, ptr, Try.fa_32_1, Try.ld_2, callV_func Try.enters_152, Try.fa_32_0, Try.ld_9, callV_func Try.enters_153, callV_func Try.enters_151, Try.fa_32_0,  Try.fa_32_1,  Try.ld_2,  Try.ld_9,  ld_newCells,  next_newCells,  ne_add_one,  add_one_ne,  callV_func Try.enters_152,  callV_func Try.enters_153,  compare_int h152 h185,  compare_str h153 h186,  bs266,  callV_func Try.enters_151, rs_tmp (show Try.f102.results = #[.tmp 4] from rfl)]
  rw [or_two h151 (x := cmpI x.2 y.2) (y := cmpS x.1 y.1) (by simp [ld_newCells, next_newCells]) (by simp [ld_newCells, next_newCells])]
  simp (maxSteps := 2000000) only [B0, B1, B2, B3, B4, B5, B6, B7, Gd, extV, Nat.reduceLT, Nat.reduceEqDiff, Nat.reduceBEq, Nat.reduceAdd, Nat.reduceSub, Nat.reduceMul, ↓reduceIte, reduceCtorEq, if_true, if_false, ite_true, ite_false, Int.reduceLT, Int.reduceLE, ptr, Try.fa_32_1, Try.ld_2, callV_func Try.enters_152, Try.fa_32_0, Try.ld_9, callV_func Try.enters_153, callV_func Try.enters_151, Try.fa_32_0,  Try.fa_32_1,  Try.ld_2,  Try.ld_9,  ld_newCells,  next_newCells,  ne_add_one,  add_one_ne,  callV_func Try.enters_152,  callV_func Try.enters_153,  compare_int h152 h185,  compare_str h153 h186,  bs266,  callV_func Try.enters_151, rs_tmp (show Try.f102.results = #[.tmp 4] from rfl)]
  exact hQ _ ((Same.newCells _ _ _ _).trans ((Same.newCells _ _ _ _).trans (Same.newCells _ _ _ _) nofun) nofun)
end Go.Proofs.Ytongccpmdndcgaa.Alm
end
/- Alarms in memory, and what their rows' methods do. -/
section
set_option linter.all false
namespace Go.Proofs.Ytongccpmdndcgaa.Alm
open Go Go.AE
set_option maxRecDepth 100000
variable {gs : List Nat} {orc : Orc} {n : Nat} {σ : AHeap} {Q : Value × AHeap → Prop}

def encA (x : Al) : List Value := [.string x.1, .int .i64 x.2]
theorem encOk : Enc 2 encA := ⟨fun _ => rfl, fun x v hv => by simp [encA] at hv; rcases hv with rfl | rfl <;> rfl, by omega⟩
abbrev pt (p : Nat) : Value := .pointer (some ⟨p, 0, none⟩)
/-- Alarms at p: their row, their places. -/
structure AlAt (σ : AHeap) (p : Nat) (sv : Value) (m : Nat) (A : List Al) (M : Prs) : Prop where
  lp : p < σ.next
  lm : m < σ.next
  pm : p ≠ m
  ps : p ∉ blks sv
  ms : m ∉ blks sv
  obj : ∃ np cp gp, σ.get p = some (.cells np cp 58 gp false) ∧ cp.get 0 = some sv ∧ cp.get 1 = some (.map (some m))
  row : SlAt σ 32 2 encA sv A
  map : MapAt σ m M
theorem AlAt.same {σ' : AHeap} {p m : Nat} {sv : Value} {A : List Al} {M : Prs} {F : List Nat} (h : AlAt σ p sv m A M) (hs : Same σ σ' F) (h1 : p ∉ F) (h2 : m ∉ F) (h3 : ∀ b ∈ blks sv, b ∉ F) : AlAt σ' p sv m A M :=
  ⟨Nat.lt_of_lt_of_le h.lp hs.next, Nat.lt_of_lt_of_le h.lm hs.next, h.pm, h.ps, h.ms, by obtain ⟨np, cp, gp, e, r⟩ := h.obj; exact ⟨np, cp, gp, by rw [hs.get p h.lp h1]; exact e, r⟩, h.row.same hs h3, h.map.of_get (hs.get m h.lm h2)⟩
theorem AlAt.same0 {σ' : AHeap} {p m : Nat} {sv : Value} {A : List Al} {M : Prs} (h : AlAt σ p sv m A M) (hs : Same σ σ' []) : AlAt σ' p sv m A M := h.same hs nofun nofun nofun
theorem AlAt.ld0 {p m : Nat} {sv : Value} {A : List Al} {M : Prs} (h : AlAt σ p sv m A M) : ld σ p 0 = some sv := by
  obtain ⟨np, cp, gp, e, h0, _⟩ := h.obj; simp only [ld, e, h0]
theorem AlAt.ld1 {p m : Nat} {sv : Value} {A : List Al} {M : Prs} (h : AlAt σ p sv m A M) : ld σ p 1 = some (.map (some m)) := by
  obtain ⟨np, cp, gp, e, _, h1⟩ := h.obj; simp only [ld, e, h1]
theorem meth_less {p : Nat} : method' Try.prog 4 175 (.agg #[pt p]) "Less" σ = some (234, .agg #[pt p]) := by kernel_rfl
theorem meth_swap {p : Nat} : method' Try.prog 4 175 (.agg #[pt p]) "Swap" σ = some (237, .agg #[pt p]) := by kernel_rfl
theorem meth_push {p : Nat} : method' Try.prog 4 175 (.agg #[pt p]) "Push" σ = some (236, .agg #[pt p]) := by kernel_rfl
theorem meth_pop {p : Nat} : method' Try.prog 4 175 (.agg #[pt p]) "Pop" σ = some (235, .agg #[pt p]) := by kernel_rfl
theorem meth_len {p : Nat} : method' Try.prog 4 175 (.agg #[pt p]) "Len" σ = some (20, pt p) := by kernel_rfl
abbrev rowsV (p : Nat) : Value := .iface 175 (.agg #[pt p])
/-- A thing of the row laid. -/
theorem AlAt.putRow {p m b o len cap : Nat} {A : List Al} {M : Prs} (h : AlAt σ p (.slice (some ⟨b, o, none⟩) len cap) m A M) {i : Nat} (hi : i < A.length) (y : Al) :
    ∃ σ', stCells σ b (o + i * 2) [.string y.1, .int .i64 y.2] = some σ' ∧ AlAt σ' p (.slice (some ⟨b, o, none⟩) len cap) m (A.set i y) M ∧ Same σ σ' [b] ∧ σ'.next = σ.next := by
  obtain ⟨b', o', cap', g, e, hc, hb, hr⟩ := h.row.at_ (List.getElem?_eq_getElem hi)
  injection e with e1 e2 e3
  injection e1 with e1
  injection e1 with e1 e4
  subst e1 e2 e3 e4
  obtain ⟨ob, h1, h2, _⟩ := hr.put encOk (show i < cap by omega) y
  have hs := Same.set σ b ob
  have hp : p ∉ [b] := fun q => h.ps (by simpa [blks] using q)
  have hm : m ∉ [b] := fun q => h.ms (by simpa [blks] using q)
  refine ⟨σ.set b ob, h1, ⟨h.lp, h.lm, h.pm, h.ps, h.ms, ?_, .inr (.inr ⟨b, o, cap, g, by rw [List.length_set], by rw [List.length_set]; exact hc, hb, h2 hi⟩), h.map.of_get (hs.get m h.lm hm)⟩, hs, rfl⟩
  obtain ⟨np, cp, gp, e, r⟩ := h.obj
  exact ⟨np, cp, gp, by rw [hs.get p h.lp hp]; exact e, r⟩
/-- A key's place laid. -/
theorem AlAt.putKey {p m : Nat} {sv : Value} {A : List Al} {M : Prs} (h : AlAt σ p sv m A M) {s : ByteArray} (hs : s.size ≤ 9223372036854775807) (v : Value) :
    ∃ v0 st σ1 σ2, mapEntry' Try.prog 56 (.map (some m)) (.string s) σ = some (.tuple #[v0, .int .i64 (st : Nat)], σ1) ∧ entryStore' (.map (some m)) (.int .i64 (st : Nat)) v σ1 = some σ2 ∧ AlAt σ2 p sv m A (mput M s v) ∧ Same σ σ2 [m] := by
  obtain ⟨v0, st, o1, o2, h1, h2, h3⟩ := entry_spec Try.underlying56 Try.underlying9 Try.zero_3 h.map hs v
  have hS : Same σ ((σ.set m o1).set m o2) [m] := (Same.set σ m o1).trans (Same.set _ m o2) (fun b hb => .inl hb)
  have hp : p ∉ [m] := fun q => h.pm (by simpa using q)
  have hb : ∀ b ∈ blks sv, b ∉ [m] := fun b hb q => h.ms (by simp at q; exact q ▸ hb)
  refine ⟨v0, st, _, _, h1, h2, ⟨Nat.lt_of_lt_of_le h.lp hS.next, Nat.lt_of_lt_of_le h.lm hS.next, h.pm, h.ps, h.ms, ?_, h.row.same hS hb, h3⟩, hS⟩
  obtain ⟨np, cp, gp, e, r⟩ := h.obj
  exact ⟨np, cp, gp, by rw [hS.get p h.lp hp]; exact e, r⟩
/-- The receiver boxed. -/
theorem boxed {p m : Nat} {sv : Value} {A : List Al} {M : Prs} (h : AlAt σ p sv m A M) : ∃ σ1, (newCells σ 175 [pt p]).2 = σ1 ∧ Same σ σ1 [] ∧ ld σ1 σ.next 0 = some (pt p) ∧ AlAt σ1 p sv m A M ∧ σ1.next = σ.next + 1 :=
  ⟨_, rfl, .newCells _ _ _ _, by rw [ld_newCells, if_pos rfl]; rfl, h.same0 (.newCells _ _ _ _), rfl⟩
/-- What the order asks of the table. -/
structure Free (orc : Orc) : Prop where
  h102 : orc 102 = none
  h151 : orc 151 = none
  h152 : orc 152 = none
  h153 : orc 153 = none
  h185 : orc 185 = none
  h186 : orc 186 = none
  h234 : orc 234 = none
  h235 : orc 235 = none
  h236 : orc 236 = none
  h237 : orc 237 = none
  h20 : orc 20 = none
  h99 : orc 99 = none
  h154 : orc 154 = none
  h156 : orc 156 = none
theorem less_run (f : Free orc) {p m : Nat} {sv : Value} {A : List Al} {M : Prs} (h : AlAt σ p sv m A M) {i j : Nat} {x y : Al} (hi : A[i]? = some x) (hj : A[j]? = some y)
    (hQ : ∀ σ', Same σ σ' [] → Q (.bool (decide (ordI x y < 0)), σ')) : W (acall Try.prog gs orc (n + 6) 234 [.agg #[pt p], .int .i64 (i : Int), .int .i64 (j : Int)] σ) Q := by
  obtain ⟨σ1, e1, hS1, hbx, h1, _⟩ := boxed h
  obtain ⟨b, o, cap, g, rfl, hcap, hb, hr⟩ := h1.row.at_ hi
  have hx := hr.ldCells encOk hi
  have hy := hr.ldCells encOk hj
  have li : i < A.length := (List.getElem?_eq_some_iff.1 hi).1
  have lj : j < A.length := (List.getElem?_eq_some_iff.1 hj).1
  simp only [encA] at hx hy
  rw [W_start (m := 25) (keep := []) Try.func234 rfl (by kernel_rfl) (by kernel_rfl) (by first | rfl | assumption | exact f.h234) (by rfl)]
  simp (maxSteps := 2000000) only [B0, B1, B2, B3, B4, B5, B6, B7, Gd, extV, Nat.reduceLT, Nat.reduceEqDiff, Nat.reduceBEq, Nat.reduceAdd, Nat.reduceSub, Nat.reduceMul, ↓reduceIte, reduceCtorEq, if_true, if_false, ite_true, ite_false, Int.reduceLT, Int.reduceLE, ptr, Try.fa_175_0, Try.ld_23, Try.fa_58_0, Try.ld_27, Try.ia_27, Try.ld_32, callV_func Try.enters_102, Value.cells,  e1,  hbx,  h1.ld0,  Try.fa_175_0,  Try.fa_58_0,  Try.ld_23,  Try.ld_27,  Try.ld_32,  Try.ia_27,  li,  lj,  hx,  hy,  callV_func Try.enters_102,  List.size_toArray, rs_tmp (show Try.f234.results = #[.tmp 6] from rfl)]
  refine order_run f.h102 f.h151 f.h152 f.h153 f.h185 f.h186 (x := x) (y := y) fun σ' hS => ?_
  simp (maxSteps := 2000000) only [B0, B1, B2, B3, B4, B5, B6, B7, Gd, extV, Nat.reduceLT, Nat.reduceEqDiff, Nat.reduceBEq, Nat.reduceAdd, Nat.reduceSub, Nat.reduceMul, ↓reduceIte, reduceCtorEq, if_true, if_false, ite_true, ite_false, Int.reduceLT, Int.reduceLE, ptr, Try.fa_175_0, Try.ld_23, Try.fa_58_0, Try.ld_27, Try.ia_27, Try.ld_32, callV_func Try.enters_102, rs_tmp (show Try.f234.results = #[.tmp 6] from rfl)]
  exact hQ σ' (hS1.trans hS nofun)
theorem len_run (f : Free orc) {p m : Nat} {sv : Value} {A : List Al} {M : Prs} (h : AlAt σ p sv m A M) : W (acall Try.prog gs orc (n + 2) 20 [pt p] σ) Q = Q (.int .i64 (A.length : Int), σ) := by
  obtain ⟨a, c, rfl, _⟩ := h.row.len
  have nn : ∀ {Q}, W (acall Try.prog gs orc (n + 1) 99 [pt p] σ) Q = Q (.bool false, σ) := by
    intro Q
    rw [W_start (m := 12) (keep := []) Try.func99 rfl (by kernel_rfl) (by kernel_rfl) (by first | rfl | assumption | exact f.h99) (by rfl)]
    simp (maxSteps := 2000000) only [B0, B1, B2, B3, B4, B5, B6, B7, Gd, extV, Nat.reduceLT, Nat.reduceEqDiff, Nat.reduceBEq, Nat.reduceAdd, Nat.reduceSub, Nat.reduceMul, ↓reduceIte, reduceCtorEq, if_true, if_false, ite_true, ite_false, Int.reduceLT, Int.reduceLE, ptr, Try.fa_58_1, Try.ld_56, bin_nilp Try.underlying23,  bin_nilm Try.underlying56,  Try.fa_58_1,  Try.ld_56,  h.ld1, rs_tmp (show Try.f99.results = #[.tmp 2] from rfl)]
  rw [W_start (m := 10) (keep := []) Try.func20 rfl (by kernel_rfl) (by kernel_rfl) (by first | rfl | assumption | exact f.h20) (by rfl)]
  simp (maxSteps := 2000000) only [B0, B1, B2, B3, B4, B5, B6, B7, Gd, extV, Nat.reduceLT, Nat.reduceEqDiff, Nat.reduceBEq, Nat.reduceAdd, Nat.reduceSub, Nat.reduceMul, ↓reduceIte, reduceCtorEq, if_true, if_false, ite_true, ite_false, Int.reduceLT, Int.reduceLE, ptr, callV_func Try.enters_99, Try.fa_58_0, Try.ld_27, Try.len_27, callV_func Try.enters_99,  nn,  Try.fa_58_0,  Try.ld_27,  h.ld0,  Try.len_27, rs_tmp (show Try.f20.results = #[.tmp 2] from rfl)]
theorem none_run (f : Free orc) {p m : Nat} {sv : Value} {A : List Al} {M : Prs} (h : AlAt σ p sv m A M) : W (acall Try.prog gs orc (n + 1) 99 [pt p] σ) Q = Q (.bool false, σ) := by
  rw [W_start (m := 12) (keep := []) Try.func99 rfl (by kernel_rfl) (by kernel_rfl) (by first | rfl | assumption | exact f.h99) (by rfl)]
  simp (maxSteps := 2000000) only [B0, B1, B2, B3, B4, B5, B6, B7, Gd, extV, Nat.reduceLT, Nat.reduceEqDiff, Nat.reduceBEq, Nat.reduceAdd, Nat.reduceSub, Nat.reduceMul, ↓reduceIte, reduceCtorEq, if_true, if_false, ite_true, ite_false, Int.reduceLT, Int.reduceLE, ptr, Try.fa_58_1, Try.ld_56, bin_nilp Try.underlying23,  bin_nilm Try.underlying56,  Try.fa_58_1,  Try.ld_56,  h.ld1, rs_tmp (show Try.f99.results = #[.tmp 2] from rfl)]
theorem swap_run (f : Free orc) {p m : Nat} {sv : Value} {A : List Al} {M : Prs} (h : AlAt σ p sv m A M) {i j : Nat} {x y : Al} (hi : A[i]? = some x) (hj : A[j]? = some y) (hxs : x.1.size ≤ 9223372036854775807) (hys : y.1.size ≤ 9223372036854775807)
    (hQ : ∀ σ', AlAt σ' p sv m ((A.set i y).set j x) (mput (mput M y.1 (.int .i64 (i : Int))) x.1 (.int .i64 (j : Int))) → Same σ σ' (m :: blks sv) → Q (.tuple #[], σ')) : W (acall Try.prog gs orc (n + 6) 237 [.agg #[pt p], .int .i64 (i : Int), .int .i64 (j : Int)] σ) Q := by
  obtain ⟨σ1, e1, hS1, hbx, h1, hn1⟩ := boxed h
  obtain ⟨b, o, cap, g, rfl, hcap, hb, hr⟩ := h1.row.at_ hi
  have li : i < A.length := (List.getElem?_eq_some_iff.1 hi).1
  have lj : j < A.length := (List.getElem?_eq_some_iff.1 hj).1
  have hx := hr.ldCells encOk hi
  have hy := hr.ldCells encOk hj
  simp only [encA] at hx hy
  obtain ⟨σ2, t2, h2, hS2, hn2⟩ := h1.putRow li y
  obtain ⟨σ3, t3, h3, hS3, hn3⟩ := h2.putRow (i := j) (by rw [List.length_set]; exact lj) x
  have hS : Same σ1 σ3 [b] := hS2.trans hS3 (fun c hc => .inl hc)
  have hbl : b < σ.next := by
    have := h.row.lt b (by simp [blks]); exact this
  have hbx3 : ld σ3 σ.next 0 = some (pt p) := by rw [hS.ld (by omega) (by simp; omega), hbx]
  obtain ⟨_, _, _, _, e, _, _, hr3⟩ := h3.row.at_ (i := j) (x := x) (by rw [List.getElem?_set_self (by rw [List.length_set]; exact lj)])
  injection e with e _ _
  injection e with e
  injection e with e e'
  subst e e'
  have gi : ((A.set i y).set j x)[i]? = some y := by
    by_cases q : j = i
    · subst q
      rw [List.getElem?_set_self (by rw [List.length_set]; exact lj)]
      rw [hi] at hj
      exact hj
    · rw [List.getElem?_set_ne q, List.getElem?_set_self li]
  have gj : ((A.set i y).set j x)[j]? = some x := by rw [List.getElem?_set_self (by rw [List.length_set]; exact lj)]
  have ki := hr3.ld (j := 0) (v := .string y.1) gi rfl
  have kj := hr3.ld (j := 0) (v := .string x.1) gj rfl
  rw [Nat.add_zero] at ki kj
  obtain ⟨v4, s4, σ4, σ5, m4, m5, h5, hS5⟩ := h3.putKey hys (.int .i64 (i : Int))
  obtain ⟨v6, s6, σ6, σ7, m6, m7, h7, hS7⟩ := h5.putKey hxs (.int .i64 (j : Int))
  rw [W_start (m := 70) (keep := []) Try.func237 rfl (by kernel_rfl) (by kernel_rfl) (by first | rfl | assumption | exact f.h237) (by rfl)]
  simp (maxSteps := 2000000) only [B0, B1, B2, B3, B4, B5, B6, B7, Gd, extV, Nat.reduceLT, Nat.reduceEqDiff, Nat.reduceBEq, Nat.reduceAdd, Nat.reduceSub, Nat.reduceMul, ↓reduceIte, reduceCtorEq, if_true, if_false, ite_true, ite_false, Int.reduceLT, Int.reduceLE, ptr, Try.fa_175_0, Try.ld_23, Try.fa_58_0, Try.ld_27, Try.ia_27, Try.ld_32, Try.st_32, Try.fa_58_1, Try.ld_56, Try.fa_32_0, Try.ld_9, Value.cells,  e1,  hbx,  hbx3,  h1.ld0,  h3.ld0,  h3.ld1,  Try.fa_175_0,  Try.fa_58_0,  Try.fa_58_1,  Try.fa_32_0,  Try.ld_23,  Try.ld_27,  Try.ld_32,  Try.ld_56,  Try.ld_9,  Try.ia_27,  Try.st_32,  li,  lj,  hx,  hy,  List.size_toArray,  t2,  t3,  ki,  kj,  aop_mapEntry,  aop_entryStore,  m4,  m5,  m6,  m7, rs_none (show Try.f237.results = #[] from rfl)]
  refine hQ σ7 h7 ?_
  refine (((hS1.app hS).app hS5).app hS7).mono fun c hc => ?_
  simp [blks] at hc ⊢
  omega
end Go.Proofs.Ytongccpmdndcgaa.Alm
end
/- Alarms: what Push and Pop of their rows do. -/
section
set_option linter.all false
namespace Go.Proofs.Ytongccpmdndcgaa.Alm
open Go Go.AE
set_option maxRecDepth 100000
variable {gs : List Nat} {orc : Orc} {n : Nat} {σ : AHeap} {Q : Value × AHeap → Prop}

/-- Another row laid. -/
theorem AlAt.reRow {σ5 : AHeap} {F : List Nat} {p m : Nat} {sv sv' : Value} {A A' : List Al} {M : Prs} (h : AlAt σ p sv m A M) (hS : Same σ σ5 F) (hpF : p ∉ F) (hmF : m ∉ F) (hr : SlAt σ5 32 2 encA sv' A') (hp : p ∉ blks sv') (hm : m ∉ blks sv') :
    ∃ σ', stCells σ5 p 0 [sv'] = some σ' ∧ AlAt σ' p sv' m A' M ∧ Same σ5 σ' [p] ∧ σ'.next = σ5.next := by
  obtain ⟨np, cp, gp, e, h0, h1⟩ := h.obj
  rw [← hS.get p h.lp hpF] at e
  have hsg : ∀ v ∈ [sv'], single v = true := by
    obtain ⟨a, c, rfl, _⟩ := hr.len
    intro v hv; simp at hv; subst hv; rfl
  obtain ⟨σ', c', s1, s2, s3, s4, s5⟩ := store_cells e (off := 0) (vs := [sv']) hsg (by intro j hj; simp at hj; subst hj; rw [h0]; rfl)
  have hp5 : p < σ5.next := Nat.lt_of_lt_of_le h.lp hS.next
  have hm5 : m < σ5.next := Nat.lt_of_lt_of_le h.lm hS.next
  refine ⟨σ', s1, ⟨by rw [s5]; exact hp5, by rw [s5]; exact hm5, h.pm, hp, hm, ⟨np, c', gp, s2, by rw [s3]; rfl, by rw [s3]; simpa using h1⟩, hr.same s4 (fun b hb q => hp (by simp at q; exact q ▸ hb)), (h.map.of_get (hS.get m h.lm hmF)).of_get (s4.get m hm5 (by simpa using fun q : m = p => h.pm q.symm))⟩, s4, s5⟩
theorem AlAt.putSl {p m : Nat} {sv sv' : Value} {A A' : List Al} {M : Prs} (h : AlAt σ p sv m A M) (hr : SlAt σ 32 2 encA sv' A') (hp : p ∉ blks sv') (hm : m ∉ blks sv') :
    ∃ σ', stCells σ p 0 [sv'] = some σ' ∧ AlAt σ' p sv' m A' M ∧ Same σ σ' [p] ∧ σ'.next = σ.next := h.reRow (.refl σ []) nofun nofun hr hp hm
theorem AlAt.delKey {p m : Nat} {sv : Value} {A : List Al} {M : Prs} (h : AlAt σ p sv m A M) (s : ByteArray) :
    ∃ σ', mapDel Try.prog 56 (.map (some m)) (.string s) σ = some σ' ∧ AlAt σ' p sv m A (mdel M s) ∧ Same σ σ' [m] := by
  obtain ⟨o, h1, h2⟩ := del_spec Try.underlying56 Try.underlying9 h.map s
  have hS := Same.set σ m o
  have hp : p ∉ [m] := fun q => h.pm (by simpa using q)
  have hb : ∀ b ∈ blks sv, b ∉ [m] := fun b hb q => h.ms (by simp at q; exact q ▸ hb)
  refine ⟨_, h1, ⟨h.lp, h.lm, h.pm, h.ps, h.ms, ?_, h.row.same hS hb, h2⟩, hS⟩
  obtain ⟨np, cp, gp, e, r⟩ := h.obj
  exact ⟨np, cp, gp, by rw [hS.get p h.lp hp]; exact e, r⟩
theorem AlAt.putOne {p m : Nat} {sv : Value} {A : List Al} {M : Prs} (h : AlAt σ p sv m A M) {s : ByteArray} (hs : s.size ≤ 9223372036854775807) (v : Value) :
    ∃ σ', mapPut Try.prog 56 (.map (some m)) (.string s) v σ = some σ' ∧ AlAt σ' p sv m A (mput M s v) ∧ Same σ σ' [m] := by
  obtain ⟨o, h1, h2⟩ := put_spec Try.underlying56 Try.underlying9 h.map hs v
  have hS := Same.set σ m o
  have hp : p ∉ [m] := fun q => h.pm (by simpa using q)
  have hb : ∀ b ∈ blks sv, b ∉ [m] := fun b hb q => h.ms (by simp at q; exact q ▸ hb)
  refine ⟨_, h1, ⟨h.lp, h.lm, h.pm, h.ps, h.ms, ?_, h.row.same hS hb, h2⟩, hS⟩
  obtain ⟨np, cp, gp, e, r⟩ := h.obj
  exact ⟨np, cp, gp, by rw [hS.get p h.lp hp]; exact e, r⟩
theorem builtin_del {t u : TypeId} {x k : Value} {σ' : AHeap} (h : mapDel Try.prog t x k σ = some σ') : builtin' Try.prog .delete #[t, u] [x, k] σ = some (.tuple #[], σ') := by
  have h0 : (#[t, u] : Array TypeId)[0]? = some t := rfl
  simp only [builtin', h0, Option.bind_some, h, Option.map_some]
theorem pop_run (f : Free orc) {p m : Nat} {sv : Value} {A : List Al} {x : Al} {M : Prs} (h : AlAt σ p sv m (A ++ [x]) M) (hl : A.length + 1 ≤ 1048576)
    (hQ : ∀ σ' sv', AlAt σ' p sv' m A (mdel M x.1) → blks sv' = blks sv → Same σ σ' [p, m] → Q (.iface 32 (alV x), σ')) : W (acall Try.prog gs orc (n + 1) 235 [.agg #[pt p]] σ) Q := by
  obtain ⟨σ1, e1, hS1, hbx, h1, hn1⟩ := boxed h
  have gx : (A ++ [x])[A.length]? = some x := by simp
  obtain ⟨b, o, cap, g, rfl, hcap, hb, hr⟩ := h1.row.at_ gx
  have hx := hr.ldCells encOk gx
  simp only [encA] at hx
  have hcap1 : A.length + 1 ≤ cap := by simpa using hcap
  obtain ⟨σ2, t2, hld, hldc, hS2, hn2⟩ := alloc_store (σ := σ1) (e := 32) (zs := [.string ⟨#[]⟩, .int .i64 0]) (vs := [.string x.1, .int .i64 x.2]) (g := false) (by intro v hv; simp at hv; rcases hv with rfl | rfl <;> rfl) (by simp)
  have hk0 : ld σ2 σ1.next 0 = some (.string x.1) := hld 0 _ rfl
  have h2 := h1.same0 hS2
  obtain ⟨b', o', cap', g', e, hcap2, hb2, hr2⟩ := h2.row.at_ gx
  injection e with e e3 e4
  injection e with e
  injection e with e e'
  subst e e' e4
  have hsl := slice_hi (kk := .i64) (h := A.length) Try.underlying27 Try.size_32 hr2 hcap2 (by omega) (by omega)
  have hrow : SlAt σ2 32 2 encA (.slice (some ⟨b, o, none⟩) A.length cap) A := .inr (.inr ⟨b, o, cap, g', rfl, by omega, hb2, by have := hr2.take A.length; simpa using this⟩)
  obtain ⟨σ3, t3, h3, hS3, hn3⟩ := h2.putSl hrow h2.ps h2.ms
  obtain ⟨σ4, t4, h4, hS4⟩ := h3.delKey x.1
  have hpl := h.lp
  have hml := h.lm
  have hbx2 : ld σ2 σ.next 0 = some (pt p) := by rw [hS2.ld (by omega) nofun, hbx]
  have hbx3 : ld σ3 σ.next 0 = some (pt p) := by rw [hS3.ld (by omega) (by simp; omega), hbx2]
  have hk3 : ld σ3 σ1.next 0 = some (.string x.1) := by rw [hS3.ld (by omega) (by simp; omega), hk0]
  have hc4 : ldCells σ4 σ1.next 0 2 = some [.string x.1, .int .i64 x.2] := by
    have hn4 := hS4.next
    rw [hS4.ldCells (by omega) (by simp; omega), hS3.ldCells (by omega) (by simp; omega)]; exact hldc
  have wl : IntKind.i64.wrap (((A ++ [x]).length : Nat) - 1 : Int) = (A.length : Int) := by
    rw [wrap64] <;> simp <;> omega
  have li : A.length < (A ++ [x]).length := by simp
  rw [W_start (m := 40) (keep := []) Try.func235 rfl (by kernel_rfl) (by kernel_rfl) (by first | rfl | assumption | exact f.h235) (by rfl)]
  simp (maxSteps := 2000000) only [B0, B1, B2, B3, B4, B5, B6, B7, Gd, extV, Nat.reduceLT, Nat.reduceEqDiff, Nat.reduceBEq, Nat.reduceAdd, Nat.reduceSub, Nat.reduceMul, ↓reduceIte, reduceCtorEq, if_true, if_false, ite_true, ite_false, Int.reduceLT, Int.reduceLE, ptr, Try.fa_175_0, Try.ld_23, Try.fa_58_0, Try.ld_27, Try.len_27, Try.ia_27, Try.ld_32, allocV_zero Try.zero_32, Try.st_32, Try.st_27, Try.fa_58_1, Try.ld_56, Try.fa_32_0, Try.ld_9, Try.mi_32, Value.cells,  e1,  hbx,  hbx2,  hbx3,  h1.ld0,  h2.ld0,  h3.ld1,  Try.fa_175_0,  Try.fa_58_0,  Try.fa_58_1,  Try.fa_32_0,  Try.ld_23,  Try.ld_27,  Try.ld_32,  Try.ld_56,  Try.ld_9,  Try.ia_27,  Try.st_32,  Try.st_27,  Try.len_27,  li,  hx,  List.size_toArray,  allocV_zero Try.zero_32,  t2,  t3,  wl,  hsl,  hk3,  builtin_del t4,  hc4,  Try.mi_32, rs_tmp (show Try.f235.results = #[.tmp 2] from rfl)]
  refine hQ σ4 _ h4 rfl ((((hS1.app hS2).app hS3).app hS4).mono fun c hc => ?_)
  simpa using hc
theorem assert_al {v : Value} : typeAssert' Try.prog (.iface 32 v) 32 true = some (.tuple #[v, .bool true]) := by kernel_rfl
theorem push_run (f : Free orc) {p m : Nat} {sv : Value} {A : List Al} {x : Al} {M : Prs} (h : AlAt σ p sv m A M) (hxs : x.1.size ≤ 9223372036854775807) (hl : A.length + 1 ≤ 1048576)
    (hQ : ∀ σ' sv', AlAt σ' p sv' m (A ++ [x]) (mput M x.1 (.int .i64 (A.length : Int))) → (∀ b ∈ blks sv', b ∈ blks sv ∨ σ.next ≤ b) → Same σ σ' (p :: m :: blks sv) → Q (.tuple #[], σ')) : W (acall Try.prog gs orc (n + 1) 236 [.agg #[pt p], .iface 32 (alV x)] σ) Q := by
  obtain ⟨σ1, e1, hS1, hbx, h1, hn1⟩ := boxed h
  obtain ⟨σ2, t2, hld, hldc, hS2, hn2⟩ := alloc_store (σ := σ1) (e := 32) (zs := [.string ⟨#[]⟩, .int .i64 0]) (vs := [.string x.1, .int .i64 x.2]) (g := false) (by intro v hv; simp at hv; rcases hv with rfl | rfl <;> rfl) (by simp)
  have hk0 : ld σ2 σ1.next 0 = some (.string x.1) := hld 0 _ rfl
  have h2 := h1.same0 hS2
  obtain ⟨σ3, t3, h3, hS3⟩ := h2.putOne hxs (.int .i64 (A.length : Int))
  have hpl := h.lp
  have hml := h.lm
  have hbx2 : ld σ2 σ.next 0 = some (pt p) := by rw [hS2.ld (by omega) nofun, hbx]
  have hbx3 : ld σ3 σ.next 0 = some (pt p) := by rw [hS3.ld (by omega) (by simp; omega), hbx2]
  have hc3 : ldCells σ3 σ1.next 0 2 = some [.string x.1, .int .i64 x.2] := by
    rw [hS3.ldCells (by omega) (by simp; omega)]; exact hldc
  obtain ⟨σ4, e4, hS4, hc4, hn4⟩ : ∃ σ4, (newCells σ3 32 [.string x.1, .int .i64 x.2]).2 = σ4 ∧ Same σ3 σ4 [] ∧ ldCells σ4 σ3.next 0 2 = some [.string x.1, .int .i64 x.2] ∧ σ4.next = σ3.next + 1 := ⟨_, rfl, .newCells _ _ _ _, ldCells_newCells, rfl⟩
  have h4 := h3.same0 hS4
  obtain ⟨a, c, rfl, hac⟩ := h.row.len
  have hap := append_spec encOk h4.row [x] (by simpa using hl)
  obtain ⟨v5, σ5, t5, r5, hS5, hb5⟩ := hap
  have hn3 := hS3.next
  have hn34 : σ.next ≤ σ4.next := by omega
  have hp5 : p ∉ blks v5 := fun q => by rcases hb5 p q with q | q; exact h.ps q; omega
  have hm5 : m ∉ blks v5 := fun q => by rcases hb5 m q with q | q; exact h.ms q; omega
  obtain ⟨σ6, t6, h6, hS6, _⟩ := h4.reRow hS5 h.ps h.ms r5 hp5 hm5
  have hf : firstCells' 2 1 σ4 (.slice (some ⟨σ3.next, 0, none⟩) 1 1) = some [.string x.1, .int .i64 x.2] := hc4
  have t5' : appendCells 32 2 a A.length c 1 [.string x.1, .int .i64 x.2] σ4 = some (v5, σ5) := t5
  have hbx5 : ld σ5 σ.next 0 = some (pt p) := by
    rw [hS5.ld (by omega) (fun q => by have := h.row.lt _ q; omega), hS4.ld (by omega) nofun, hbx3]
  obtain ⟨a5, c5, rfl, _⟩ := r5.len
  have bs : ∀ {τ : AHeap}, buildSliceV Try.prog 27 1 [(0, .agg #[.string x.1, .int .i64 x.2])] τ = some (.slice (some ⟨τ.next, 0, none⟩) 1 1, (newCells τ 32 [.string x.1, .int .i64 x.2]).2) := bs_one Try.underlying27 Try.elem_32 rfl rfl (by decide)
  have hbx4 : ld σ4 σ.next 0 = some (pt p) := by rw [hS4.ld (by omega) nofun, hbx3]
  rw [W_start (m := 38) (keep := [4]) Try.func236 rfl (by kernel_rfl) (by kernel_rfl) (by first | rfl | assumption | exact f.h236) (by rfl)]
  simp (maxSteps := 2000000) only [B0, B1, B2, B3, B4, B5, B6, B7, Gd, extV, Nat.reduceLT, Nat.reduceEqDiff, Nat.reduceBEq, Nat.reduceAdd, Nat.reduceSub, Nat.reduceMul, ↓reduceIte, reduceCtorEq, if_true, if_false, ite_true, ite_false, Int.reduceLT, Int.reduceLE, ptr, allocV_zero Try.zero_32, Try.st_32, Try.fa_175_0, Try.ld_23, Try.fa_58_1, Try.ld_56, Try.fa_32_0, Try.ld_9, Try.fa_58_0, Try.ld_27, Try.len_27, Try.ld_32, Try.st_27, Value.cells,  e1,  alV,  assert_al,  hbx,  hbx2,  hbx3,  hbx4,  hbx5,  h1.ld0,  h2.ld0,  h2.ld1,  h3.ld0,  h4.ld0,  Try.fa_175_0,  Try.fa_58_0,  Try.fa_58_1,  Try.fa_32_0,  Try.ld_23,  Try.ld_27,  Try.ld_32,  Try.ld_56,  Try.ld_9,  Try.ia_27,  Try.st_32,  Try.st_27,  Try.len_27,  List.size_toArray,  allocV_zero Try.zero_32,  t2,  t3,  hk0,  hc3,  bs,  e4,  append_eq Try.underlying27 Try.underlying27 Try.elem_32 hf,  t5',  t6, rs_none (show Try.f236.results = #[] from rfl)]
  refine Eq.mpr (W_retold (ps := [(8, 1), (8, 3), (8, 6), (9, 1)]) ?h1 ?h2 (by simp)) ?h3
  case h1 => kernel_rfl
  case h2 => kernel_rfl
  simp (maxSteps := 2000000) only [B0, B1, B2, B3, B4, B5, B6, B7, Gd, extV, Nat.reduceLT, Nat.reduceEqDiff, Nat.reduceBEq, Nat.reduceAdd, Nat.reduceSub, Nat.reduceMul, ↓reduceIte, reduceCtorEq, if_true, if_false, ite_true, ite_false, Int.reduceLT, Int.reduceLE, ptr, allocV_zero Try.zero_32, Try.st_32, Try.fa_175_0, Try.ld_23, Try.fa_58_1, Try.ld_56, Try.fa_32_0, Try.ld_9, Try.fa_58_0, Try.ld_27, Try.len_27, Try.ld_32, Try.st_27, Value.cells,  e1,  alV,  assert_al,  hbx,  hbx2,  hbx3,  hbx4,  hbx5,  h1.ld0,  h2.ld0,  h2.ld1,  h3.ld0,  h4.ld0,  Try.fa_175_0,  Try.fa_58_0,  Try.fa_58_1,  Try.fa_32_0,  Try.ld_23,  Try.ld_27,  Try.ld_32,  Try.ld_56,  Try.ld_9,  Try.ia_27,  Try.st_32,  Try.st_27,  Try.len_27,  List.size_toArray,  allocV_zero Try.zero_32,  t2,  t3,  hk0,  hc3,  bs,  e4,  append_eq Try.underlying27 Try.underlying27 Try.elem_32 hf,  t5',  t6, rs_none (show Try.f236.results = #[] from rfl)]
  refine hQ σ6 _ h6 (fun b hb => (hb5 b hb).imp_right fun q => by omega) ((((((hS1.app hS2).app hS3).app hS4).app hS5).app hS6).mono fun c hc => ?_)
  simp at hc ⊢
  rcases hc with hc | hc | hc
  · exact .inr (.inl hc)
  · exact .inr (.inr hc)
  · exact .inl hc
end Go.Proofs.Ytongccpmdndcgaa.Alm
end
/- Alarms: their order, and heap.up. -/
section
set_option linter.all false
namespace Go.Proofs.Ytongccpmdndcgaa.Alm
open Go Go.AE Go.Hp
set_option maxRecDepth 100000
variable {gs : List Nat} {orc : Orc} {n : Nat} {σ : AHeap} {Q : Value × AHeap → Prop}

theorem less_lt : ∀ a b : List UInt8, Op.bytesLess a b = decide (a < b)
  | a, [] => by cases a <;> simp [Op.bytesLess]
  | [], b :: bs => by simp [Op.bytesLess]
  | a :: x, b :: y => by
    rw [Op.bytesLess, less_lt x y]
    have : (a :: x < b :: y) ↔ (a < b ∨ a = b ∧ x < y) := List.cons_lt_cons_iff
    by_cases h1 : a < b
    · simp [h1, this]
    · by_cases h2 : a = b
      · subst h2; simp [this]
      · simp [h1, h2, this]
theorem ba_ext {a b : ByteArray} (h : a.data.toList = b.data.toList) : a = b := by
  cases a with | mk x => cases b with | mk y => simp at h; rw [h]
theorem sLt_iff {a b : ByteArray} : sLt a b = true ↔ a.data.toList < b.data.toList := by unfold sLt; rw [less_lt]; simp
theorem sLt_tri (a b : ByteArray) : sLt a b = true ∨ a = b ∨ sLt b a = true := by
  rw [sLt_iff, sLt_iff]
  by_cases h1 : a.data.toList < b.data.toList
  · exact .inl h1
  · by_cases h2 : b.data.toList < a.data.toList
    · exact .inr (.inr h2)
    · exact .inr (.inl (ba_ext (List.le_antisymm (List.not_lt.1 h2) (List.not_lt.1 h1))))
theorem sLt_trans {a b c : ByteArray} (h : sLt a b = true) (k : sLt b c = true) : sLt a c = true := by rw [sLt_iff] at *; exact List.lt_trans h k
theorem sLt_irr (a : ByteArray) : sLt a a = false := by
  cases h : sLt a a with
  | false => rfl
  | true => exact absurd (sLt_iff.1 h) (List.lt_irrefl _)
theorem sLt_asymm {a b : ByteArray} (h : sLt a b = true) : sLt b a = false := by
  cases k : sLt b a with
  | false => rfl
  | true => have := sLt_trans h k; rw [sLt_irr] at this; cases this
/-- One alarm ahead of another one. -/
def lt (x y : Al) : Prop := ordI x y < 0
instance (x y : Al) : Decidable (lt x y) := inferInstanceAs (Decidable (ordI x y < 0))
theorem lt_iff {x y : Al} : lt x y ↔ x.2 < y.2 ∨ x.2 = y.2 ∧ sLt x.1 y.1 = true := by
  unfold lt ordI cmpI cmpS
  by_cases h1 : x.2 < y.2
  · simp [h1]
  · by_cases h2 : y.2 < x.2
    · have : ¬ x.2 = y.2 := by omega
      simp [h1, h2, this]
    · have : x.2 = y.2 := by omega
      by_cases h3 : sLt x.1 y.1 = true
      · simp [this, h3]
      · by_cases h4 : x.1 = y.1
        · simp [this, h4, sLt_irr]
        · simp [this, h3, h4]
theorem ordOk : Ord lt := by
  refine ⟨fun a b c h1 h2 => ?_, fun a b h => ?_⟩
  · rw [lt_iff] at *
    intro h
    rcases h with h | ⟨h, k⟩
    · by_cases q : a.2 < b.2
      · exact h2 (.inl (by omega))
      · by_cases q2 : a.2 = b.2
        · exact h2 (.inl (by omega))
        · exact h1 (.inl (by omega))
    · rcases sLt_tri b.1 a.1 with q | q | q
      · by_cases q2 : b.2 = a.2
        · exact h1 (.inr ⟨q2, q⟩)
        · by_cases q3 : b.2 < a.2
          · exact h1 (.inl q3)
          · exact h2 (.inl (by omega))
      · by_cases q2 : b.2 = a.2
        · exact h2 (.inr ⟨by omega, q ▸ k⟩)
        · by_cases q3 : b.2 < a.2
          · exact h1 (.inl q3)
          · exact h2 (.inl (by omega))
      · by_cases q2 : b.2 = a.2
        · exact h2 (.inr ⟨by omega, sLt_trans k q⟩)
        · by_cases q3 : b.2 < a.2
          · exact h1 (.inl q3)
          · exact h2 (.inl (by omega))
  · rw [lt_iff] at *
    intro k
    rcases h with h | ⟨h, h'⟩ <;> rcases k with k | ⟨k, k'⟩
    · omega
    · omega
    · omega
    · rw [sLt_asymm h'] at k'; cases k'
theorem lt_irr (a : Al) : ¬ lt a a := fun h => ordOk.asy a a h h
theorem lt_tri {x y : Al} (h1 : ¬ lt x y) (h2 : ¬ lt y x) : x = y := by
  rw [lt_iff] at h1 h2
  have e : x.2 = y.2 := by
    by_cases q : x.2 < y.2
    · exact absurd (.inl q) h1
    · by_cases q2 : y.2 < x.2
      · exact absurd (.inl q2) h2
      · omega
  rcases sLt_tri x.1 y.1 with q | q | q
  · exact absurd (.inr ⟨e, q⟩) h1
  · exact Prod.ext q e
  · exact absurd (.inr ⟨e.symm, q⟩) h2

theorem set_perm {A : List Al} {i j : Nat} {x y : Al} (hi : A[i]? = some x) (hj : A[j]? = some y) : ((A.set i y).set j x).Perm A := by
  have li : i < A.length := (List.getElem?_eq_some_iff.1 hi).1
  have lj : j < A.length := (List.getElem?_eq_some_iff.1 hj).1
  have h := Array.swap_perm (xs := A.toArray) (i := i) (j := j) (by simpa using li) (by simpa using lj)
  have h2 := Array.perm_iff_toList_perm.1 h
  have e1 : A[i] = x := by have := List.getElem?_eq_some_iff.1 hi; exact this.2
  have e2 : A[j] = y := by have := List.getElem?_eq_some_iff.1 hj; exact this.2
  simpa [Array.swap_def, e1, e2] using h2
/-- Each key's place. -/
structure Plc (A : List Al) (M : Prs) : Prop where
  at_ : ∀ (i : Nat) (x : Al), A[i]? = some x → mget M x.1 = some (.int .i64 (i : Int))
  len : M.length = A.length
  only : ∀ s, (mget M s).isSome = true → ∃ x ∈ A, x.1 = s
theorem Plc.inj {A : List Al} {M : Prs} (h : Plc A M) {i j : Nat} {x y : Al} (hi : A[i]? = some x) (hj : A[j]? = some y) (e : x.1 = y.1) : i = j := by
  have h1 := h.at_ i x hi
  have h2 := h.at_ j y hj
  rw [e, h2] at h1
  simp at h1
  omega
theorem Plc.swap {A : List Al} {M : Prs} (h : Plc A M) {i j : Nat} {x y : Al} (hi : A[i]? = some x) (hj : A[j]? = some y) : Plc ((A.set i y).set j x) (mput (mput M y.1 (.int .i64 (i : Int))) x.1 (.int .i64 (j : Int))) := by
  have li : i < A.length := (List.getElem?_eq_some_iff.1 hi).1
  have lj : j < A.length := (List.getElem?_eq_some_iff.1 hj).1
  refine ⟨fun q z hz => ?_, ?_, fun s hs => ?_⟩
  · rw [mget_mput, mget_mput]
    by_cases q1 : q = j
    · subst q1
      rw [List.getElem?_set_self (by rw [List.length_set]; exact lj)] at hz
      cases hz
      simp
    · rw [List.getElem?_set_ne (fun e => q1 e.symm)] at hz
      by_cases q2 : q = i
      · subst q2
        rw [List.getElem?_set_self li] at hz
        cases hz
        have : ¬ y.1 = x.1 := fun e => q1 (h.inj hi hj e.symm)
        simp [this]
      · rw [List.getElem?_set_ne (fun e => q2 e.symm)] at hz
        have e1 : ¬ z.1 = x.1 := fun e => q2 (h.inj hz hi e)
        have e2 : ¬ z.1 = y.1 := fun e => q1 (h.inj hz hj e)
        rw [if_neg e1, if_neg e2]
        exact h.at_ q z hz
  · have e1 : (mget M y.1).isSome = true := by rw [h.at_ j y hj]; rfl
    have e2 : (mget (mput M y.1 (.int .i64 (i : Int))) x.1).isSome = true := by
      rw [mget_mput]
      split
      · rfl
      · rw [h.at_ i x hi]; rfl
    rw [len_mput, if_pos e2, len_mput, if_pos e1, List.length_set, List.length_set]
    exact h.len
  · have pm : ∀ z ∈ A, ∃ x' ∈ (A.set i y).set j x, x'.1 = z.1 := fun z hz => ⟨z, (set_perm hi hj).mem_iff.2 hz, rfl⟩
    rw [mget_mput, mget_mput] at hs
    by_cases q1 : s = x.1
    · subst q1; exact pm x (List.mem_of_getElem? hi)
    · rw [if_neg q1] at hs
      by_cases q2 : s = y.1
      · subst q2; exact pm y (List.mem_of_getElem? hj)
      · rw [if_neg q2] at hs
        obtain ⟨z, hz, e⟩ := h.only s hs
        subst e
        exact pm z hz
/-- Alarms in memory, whole; F: their blocks. -/
structure AAt (σ : AHeap) (p : Nat) (F : List Nat) (A : List Al) : Prop where
  ex : ∃ sv m M, AlAt σ p sv m A M ∧ Plc A M ∧ F = p :: m :: blks sv
  keys : ∀ x ∈ A, x.1.size ≤ 64
theorem AAt.same {σ' : AHeap} {p : Nat} {F G : List Nat} {A : List Al} (h : AAt σ p F A) (hs : Same σ σ' G) (hd : ∀ b ∈ F, b ∉ G) : AAt σ' p F A := by
  obtain ⟨sv, m, M, h1, h2, rfl⟩ := h.ex
  exact ⟨⟨sv, m, M, h1.same hs (hd p (by simp)) (hd m (by simp)) (fun b hb => hd b (by simp [hb])), h2, rfl⟩, h.keys⟩
theorem AAt.lt {p : Nat} {F : List Nat} {A : List Al} (h : AAt σ p F A) : ∀ b ∈ F, b < σ.next := by
  obtain ⟨sv, m, M, h1, h2, rfl⟩ := h.ex
  intro b hb
  simp at hb
  rcases hb with rfl | rfl | hb
  · exact h1.lp
  · exact h1.lm
  · exact h1.row.lt b hb
/-- The row as a function. -/
def fA (A : List Al) (i : Nat) : Al := (A[i]?).getD (⟨#[]⟩, 0)
theorem fA_of {A : List Al} {i : Nat} {x : Al} (h : A[i]? = some x) : fA A i = x := by simp [fA, h]
theorem fA_sw {A : List Al} {i j : Nat} {x y : Al} (hi : A[i]? = some x) (hj : A[j]? = some y) : fA ((A.set i y).set j x) = sw (fA A) i j := by
  have li : i < A.length := (List.getElem?_eq_some_iff.1 hi).1
  have lj : j < A.length := (List.getElem?_eq_some_iff.1 hj).1
  funext q
  unfold sw
  by_cases q2 : q = i
  · subst q2
    rw [if_pos rfl]
    by_cases q1 : q = j
    · subst q1
      unfold fA
      rw [List.getElem?_set_self (by rw [List.length_set]; exact lj)]
      simp [hi, hj] at *
    · unfold fA
      rw [List.getElem?_set_ne (fun e => q1 e.symm), List.getElem?_set_self li]; simp [hj]
  · rw [if_neg q2]
    by_cases q1 : q = j
    · subst q1
      rw [if_pos rfl]
      unfold fA
      rw [List.getElem?_set_self (by rw [List.length_set]; exact lj)]
      simp [hi, hj] at *
    · rw [if_neg q1]
      unfold fA
      rw [List.getElem?_set_ne (fun e => q1 e.symm), List.getElem?_set_ne (fun e => q2 e.symm)]
end Go.Proofs.Ytongccpmdndcgaa.Alm
end
/- Alarms in order: plain laws. -/
section
set_option linter.all false
namespace Go.Proofs.Ytongccpmdndcgaa.Alm
open Go Go.AE Go.Hp

def insA (x : Al) : List Al → List Al
  | [] => [x]
  | y :: l => if lt x y then x :: y :: l else y :: insA x l
def remA (k : ByteArray) (L : List Al) : List Al := L.filter fun y => !decide (y.1 = k)
def getA (k : ByteArray) (L : List Al) : Option Int := (L.find? fun y => decide (y.1 = k)).map (·.2)
/-- Each key once. -/
def KD (L : List Al) : Prop := (L.map (·.1)).Nodup
theorem KD.perm {L M : List Al} (h : KD L) (p : L.Perm M) : KD M := (p.map _).nodup_iff.1 h
theorem insA_perm (x : Al) : ∀ L, (insA x L).Perm (x :: L)
  | [] => .refl _
  | y :: l => by
    rw [insA]
    split
    · exact .refl _
    · exact ((insA_perm x l).cons y).trans (.swap x y l)
theorem lt_trans {a b c : Al} (h : lt a b) (k : lt b c) : lt a c := by
  rw [lt_iff] at *
  rcases h with h | ⟨h, h'⟩ <;> rcases k with k | ⟨k, k'⟩
  · exact .inl (by omega)
  · exact .inl (by omega)
  · exact .inl (by omega)
  · exact .inr ⟨by omega, sLt_trans h' k'⟩
theorem insA_pair {x : Al} : ∀ {L : List Al}, L.Pairwise lt → (∀ y ∈ L, y.1 ≠ x.1) → (insA x L).Pairwise lt
  | [], _, _ => by simp [insA]
  | y :: l, h, hx => by
    have hy := List.pairwise_cons.1 h
    rw [insA]
    split
    · rename_i hl
      refine List.pairwise_cons.2 ⟨fun z hz => ?_, h⟩
      rcases List.mem_cons.1 hz with rfl | hz
      · exact hl
      · exact lt_trans hl (hy.1 z hz)
    · rename_i hl
      refine List.pairwise_cons.2 ⟨fun z hz => ?_, insA_pair hy.2 fun z hz => hx z (by simp [hz])⟩
      rcases List.mem_cons.1 ((insA_perm x l).mem_iff.1 hz) with rfl | hz
      · exact Classical.byContradiction fun q => hx y (by simp) (by rw [lt_tri q hl])
      · exact hy.1 z hz
theorem sorted_unique {L M : List Al} (p : L.Perm M) (h : L.Pairwise lt) (k : M.Pairwise lt) : L = M :=
  List.Perm.eq_of_pairwise (le := lt) (fun a b _ _ h1 h2 => absurd h2 (ordOk.asy _ _ h1)) h k p
theorem remA_pair {k : ByteArray} {L : List Al} (h : L.Pairwise lt) : (remA k L).Pairwise lt := h.sublist List.filter_sublist
theorem remA_perm {k : ByteArray} {L M : List Al} (p : L.Perm M) : (remA k L).Perm (remA k M) := p.filter _
theorem mem_remA {k : ByteArray} {L : List Al} {x : Al} : x ∈ remA k L ↔ x ∈ L ∧ x.1 ≠ k := by simp [remA]
theorem remA_not {k : ByteArray} {L : List Al} (h : ∀ y ∈ L, y.1 ≠ k) : remA k L = L := List.filter_eq_self.2 fun y hy => by simp [h y hy]
theorem remA_cons_self {x : Al} {L : List Al} (h : KD (x :: L)) : remA x.1 (x :: L) = L := by
  have h2 := List.nodup_cons.1 h
  have : ∀ y ∈ L, y.1 ≠ x.1 := fun y hy e => h2.1 (List.mem_map.2 ⟨y, hy, e⟩)
  rw [remA, List.filter_cons]
  simp only [decide_true, Bool.not_true, Bool.false_eq_true, if_false]
  exact remA_not this
theorem getA_mem {L : List Al} (h : KD L) {x : Al} (hx : x ∈ L) : getA x.1 L = some x.2 := by
  induction L with
  | nil => cases hx
  | cons y l ih =>
    have h2 := List.nodup_cons.1 h
    unfold getA
    rw [List.find?_cons]
    rcases List.mem_cons.1 hx with rfl | hx
    · simp
    · have : ¬ y.1 = x.1 := fun e => h2.1 (List.mem_map.2 ⟨x, hx, e.symm⟩)
      simp only [decide_eq_false this]
      exact ih h2.2 hx
theorem getA_none {L : List Al} {k : ByteArray} (h : ∀ y ∈ L, y.1 ≠ k) : getA k L = none := by
  unfold getA
  rw [List.find?_eq_none.2 fun y hy => by simp [h y hy]]
  rfl
theorem head_min {A L : List Al} {x : Al} (p : A.Perm (x :: L)) (hs : (x :: L).Pairwise lt) (hh : Heap lt (fA A) A.length) : A[0]? = some x := by
  have hl := p.length_eq
  simp at hl
  have h0 : 0 < A.length := by omega
  have e0 : A[0]? = some A[0] := List.getElem?_eq_getElem h0
  have hm : A[0] ∈ x :: L := p.mem_iff.1 (List.getElem_mem h0)
  rcases List.mem_cons.1 hm with e | hm
  · rw [e0, e]
  · obtain ⟨j, hj, ej⟩ := List.mem_iff_getElem.1 (p.mem_iff.2 (List.mem_cons_self (a := x) (l := L)))
    have h1 := heap_min ordOk hh lt_irr j hj
    rw [fA_of e0, fA_of (show A[j]? = some x by rw [List.getElem?_eq_getElem hj, ej])] at h1
    exact absurd ((List.pairwise_cons.1 hs).1 _ hm) h1
/-- What is due, and what is not. -/
def due (now : Int) (L : List Al) : List Al := L.takeWhile fun x => decide (x.2 ≤ now)
def left (now : Int) (L : List Al) : List Al := L.dropWhile fun x => decide (x.2 ≤ now)
end Go.Proofs.Ytongccpmdndcgaa.Alm
end
/- Alarms: heap.up and heap.down. -/
section
set_option linter.all false
namespace Go.Proofs.Ytongccpmdndcgaa.Alm
open Go Go.AE Go.Hp
set_option maxRecDepth 100000
variable {gs : List Nat} {orc : Orc} {n : Nat} {σ : AHeap} {Q : Value × AHeap → Prop}

theorem inv_less {call : CallF} {p : Nat} {args : List Value} : invokeV Try.prog call (.iface 175 (.agg #[pt p])) "Less" args σ = call 234 (.agg #[pt p] :: args) σ := by simp only [invokeV, meth_less, Try.enters_234]
theorem inv_swap {call : CallF} {p : Nat} {args : List Value} : invokeV Try.prog call (.iface 175 (.agg #[pt p])) "Swap" args σ = call 237 (.agg #[pt p] :: args) σ := by simp only [invokeV, meth_swap, Try.enters_237]
theorem inv_push {call : CallF} {p : Nat} {args : List Value} : invokeV Try.prog call (.iface 175 (.agg #[pt p])) "Push" args σ = call 236 (.agg #[pt p] :: args) σ := by simp only [invokeV, meth_push, Try.enters_236]
theorem inv_pop {call : CallF} {p : Nat} {args : List Value} : invokeV Try.prog call (.iface 175 (.agg #[pt p])) "Pop" args σ = call 235 (.agg #[pt p] :: args) σ := by simp only [invokeV, meth_pop, Try.enters_235]
theorem inv_len {call : CallF} {p : Nat} {args : List Value} : invokeV Try.prog call (.iface 175 (.agg #[pt p])) "Len" args σ = call 20 (pt p :: args) σ := by simp only [invokeV, meth_len, Try.enters_20]
theorem less' (f : Free orc) {p : Nat} {F : List Nat} {A : List Al} (h : AAt σ p F A) {i j : Nat} {x y : Al} (hi : A[i]? = some x) (hj : A[j]? = some y)
    (hQ : ∀ σ', AAt σ' p F A → Same σ σ' [] → Q (.bool (decide (lt x y)), σ')) : W (acall Try.prog gs orc (n + 6) 234 [.agg #[pt p], .int .i64 (i : Int), .int .i64 (j : Int)] σ) Q := by
  obtain ⟨sv, m, M, h1, h2, rfl⟩ := h.ex
  exact less_run f h1 hi hj fun σ' hS => hQ σ' (h.same hS nofun) hS
theorem swap' (f : Free orc) {p : Nat} {F : List Nat} {A : List Al} (h : AAt σ p F A) {i j : Nat} {x y : Al} (hi : A[i]? = some x) (hj : A[j]? = some y)
    (hQ : ∀ σ', AAt σ' p F ((A.set i y).set j x) → Same σ σ' F → Q (.tuple #[], σ')) : W (acall Try.prog gs orc (n + 6) 237 [.agg #[pt p], .int .i64 (i : Int), .int .i64 (j : Int)] σ) Q := by
  obtain ⟨sv, m, M, h1, h2, rfl⟩ := h.ex
  have hx := h.keys x (List.mem_of_getElem? hi)
  have hy := h.keys y (List.mem_of_getElem? hj)
  exact swap_run f h1 hi hj (by omega) (by omega) fun σ' h' hS => hQ σ' ⟨⟨sv, m, _, h', h2.swap hi hj, rfl⟩, fun z hz => h.keys z ((set_perm hi hj).mem_iff.1 hz)⟩ (hS.mono fun b hb => List.mem_cons_of_mem _ hb)
theorem up_run (f : Free orc) {p k m : Nat} {F : List Nat} {A : List Al} (h : AAt σ p F A) (hn : A.length ≤ n) (hN : A.length ≤ 1048576) (hm : m ≤ A.length) (hk : k < m) (he : Exc lt (fA A) m k) (hc : Hp.Kids lt (fA A) m k)
    (hQ : ∀ σ' A', AAt σ' p F A' → A'.Perm A → (∀ q, m ≤ q → A'[q]? = A[q]?) → Heap lt (fA A') m → Same σ σ' F → Q (.tuple #[], σ')) : W (acall Try.prog gs orc (n + 8) 156 [rowsV p, .int .i64 (k : Int)] σ) Q := by
  rw [W_start (m := 23) (keep := []) Try.func156 rfl (by kernel_rfl) (by kernel_rfl) (by first | rfl | assumption | exact f.h156) (by rfl)]
  simp (maxSteps := 2000000) only [B0, B1, B2, B3, B4, B5, B6, B7, Gd, extV, Nat.reduceLT, Nat.reduceEqDiff, Nat.reduceBEq, Nat.reduceAdd, Nat.reduceSub, Nat.reduceMul, ↓reduceIte, reduceCtorEq, if_true, if_false, ite_true, ite_false, Int.reduceLT, Int.reduceLE, ptr, rs_none (show Try.f156.results = #[] from rfl)]
  refine W_inv (fun k fr σ' => ∃ (t : Tr Value) (A' : List Al), fr = ⟨23, t⟩ ∧ t.get 0 = some (rowsV p) ∧ t.get 1 = some (.int .i64 (k : Int)) ∧ AAt σ' p F A' ∧ A'.Perm A ∧ (∀ q, m ≤ q → A'[q]? = A[q]?) ∧ k < m ∧ Exc lt (fA A') m k ∧ Hp.Kids lt (fA A') m k ∧ Same σ σ' F) k (by omega) ⟨_, A, rfl, rfl, rfl, h, .refl _, fun _ _ => rfl, hk, he, hc, .refl _ _⟩ ?_
  rintro k fr σ1 ⟨t, A1, rfl, t0, t1, h1, hp, htl, hk, he, hc, hS⟩
  have hl := hp.length_eq
  by_cases k0 : k = 0
  · subst k0
    simp (maxSteps := 2000000) only [B0, B1, B2, B3, B4, B5, B6, B7, Gd, extV, Nat.reduceLT, Nat.reduceEqDiff, Nat.reduceBEq, Nat.reduceAdd, Nat.reduceSub, Nat.reduceMul, ↓reduceIte, reduceCtorEq, if_true, if_false, ite_true, ite_false, Int.reduceLT, Int.reduceLE, ptr, t0,  t1, rs_none (show Try.f156.results = #[] from rfl)]
    exact hQ σ1 A1 h1 hp htl (heap_of he hc (fun q => by omega)) hS
  · have w1 : IntKind.i64.wrap ((k : Int) - 1) = ((k - 1 : Nat) : Int) := by rw [wrap64] <;> omega
    have w2 : IntKind.i64.wrap (((k - 1 : Nat) : Int).tdiv 2) = (((k - 1) / 2 : Nat) : Int) := by
      rw [Int.tdiv_eq_ediv_of_nonneg (by omega), wrap64 (by omega) (by omega)]; omega
    have w3 : ((((k - 1) / 2 : Nat) : Int) = (k : Int)) = False := by simp; omega
    obtain ⟨x, hx⟩ : ∃ x, A1[k]? = some x := ⟨A1[k]'(by omega), List.getElem?_eq_getElem _⟩
    obtain ⟨y, hy⟩ : ∃ y, A1[(k - 1) / 2]? = some y := ⟨A1[(k - 1) / 2]'(by omega), List.getElem?_eq_getElem _⟩
    simp (maxSteps := 2000000) only [B0, B1, B2, B3, B4, B5, B6, B7, Gd, extV, Nat.reduceLT, Nat.reduceEqDiff, Nat.reduceBEq, Nat.reduceAdd, Nat.reduceSub, Nat.reduceMul, ↓reduceIte, reduceCtorEq, if_true, if_false, ite_true, ite_false, Int.reduceLT, Int.reduceLE, ptr, t0,  t1,  w1,  w2,  w3,  inv_less,  inv_swap, rs_none (show Try.f156.results = #[] from rfl)]
    refine less' f h1 hx hy fun σ2 h2 hS2 => ?_
    by_cases hlt : lt x y
    · simp (maxSteps := 2000000) only [B0, B1, B2, B3, B4, B5, B6, B7, Gd, extV, Nat.reduceLT, Nat.reduceEqDiff, Nat.reduceBEq, Nat.reduceAdd, Nat.reduceSub, Nat.reduceMul, ↓reduceIte, reduceCtorEq, if_true, if_false, ite_true, ite_false, Int.reduceLT, Int.reduceLE, ptr, t0,  t1,  w1,  w2,  w3,  inv_less,  inv_swap,  hlt, rs_none (show Try.f156.results = #[] from rfl)]
      refine swap' f h2 hy hx fun σ3 h3 hS3 => ?_
      simp (maxSteps := 2000000) only [B0, B1, B2, B3, B4, B5, B6, B7, Gd, extV, Nat.reduceLT, Nat.reduceEqDiff, Nat.reduceBEq, Nat.reduceAdd, Nat.reduceSub, Nat.reduceMul, ↓reduceIte, reduceCtorEq, if_true, if_false, ite_true, ite_false, Int.reduceLT, Int.reduceLE, ptr, t0,  t1,  w1,  w2,  w3,  inv_less,  inv_swap,  hlt,  KInv_normal, rs_none (show Try.f156.results = #[] from rfl)]
      obtain ⟨he', hc'⟩ := up_step ordOk he hc (by omega) (by omega) (by rw [fA_of hx, fA_of hy]; exact hlt)
      rw [← fA_sw hy hx] at he' hc'
      exact ⟨(k - 1) / 2, by omega, _, _, rfl, by simp [get_put, t0], by simp [get_put], h3, (set_perm hy hx).trans hp, fun q hq => by rw [List.getElem?_set_ne (by omega), List.getElem?_set_ne (by omega)]; exact htl q hq, by omega, he', hc', (hS.trans hS2 nofun).trans hS3 (fun b hb => .inl hb)⟩
    · simp (maxSteps := 2000000) only [B0, B1, B2, B3, B4, B5, B6, B7, Gd, extV, Nat.reduceLT, Nat.reduceEqDiff, Nat.reduceBEq, Nat.reduceAdd, Nat.reduceSub, Nat.reduceMul, ↓reduceIte, reduceCtorEq, if_true, if_false, ite_true, ite_false, Int.reduceLT, Int.reduceLE, ptr, t0,  t1,  w1,  w2,  w3,  inv_less,  inv_swap,  hlt, rs_none (show Try.f156.results = #[] from rfl)]
      exact hQ σ2 A1 h2 hp htl (heap_of he hc (fun _ => by rw [fA_of hx, fA_of hy]; exact hlt)) (hS.trans hS2 nofun)
end Go.Proofs.Ytongccpmdndcgaa.Alm
end
/- Alarms: heap.down. -/
section
set_option linter.all false
namespace Go.Proofs.Ytongccpmdndcgaa.Alm
open Go Go.AE Go.Hp
set_option maxRecDepth 100000
variable {gs : List Nat} {orc : Orc} {n : Nat} {σ : AHeap} {Q : Value × AHeap → Prop}

set_option maxHeartbeats 1000000 in
theorem down_run (f : Free orc) {p i0 m : Nat} {F : List Nat} {A : List Al} (h : AAt σ p F A) (hn : A.length ≤ n) (hN : A.length ≤ 1048576) (hm : m ≤ A.length) (hi0 : i0 ≤ m) (he : Exc lt (fA A) m i0)
    (hQ : ∀ σ' A' b, AAt σ' p F A' → A'.Perm A → (∀ q, m ≤ q → A'[q]? = A[q]?) → (b = true → Heap lt (fA A') m) → (b = false → A' = A ∧ Hp.Kids lt (fA A) m i0) → Same σ σ' F → Q (.bool b, σ')) :
    W (acall Try.prog gs orc (n + 8) 154 [rowsV p, .int .i64 (i0 : Int), .int .i64 (m : Int)] σ) Q := by
  rw [W_start (m := 48) (keep := []) Try.func154 rfl (by kernel_rfl) (by kernel_rfl) (by first | rfl | assumption | exact f.h154) (by rfl)]
  simp (maxSteps := 2000000) only [B0, B1, B2, B3, B4, B5, B6, B7, Gd, extV, Nat.reduceLT, Nat.reduceEqDiff, Nat.reduceBEq, Nat.reduceAdd, Nat.reduceSub, Nat.reduceMul, ↓reduceIte, reduceCtorEq, if_true, if_false, ite_true, ite_false, Int.reduceLT, Int.reduceLE, ptr, rs_tmp (show Try.f154.results = #[.tmp 6] from rfl)]
  refine W_inv (fun k fr σ' => ∃ (t : Tr Value) (A' : List Al) (i : Nat), fr = ⟨48, t⟩ ∧ t.get 0 = some (rowsV p) ∧ t.get 1 = some (.int .i64 (i0 : Int)) ∧ t.get 2 = some (.int .i64 (m : Int)) ∧ t.get 7 = some (.int .i64 (i : Int)) ∧ k = m - i ∧ i0 ≤ i ∧ i ≤ m ∧ AAt σ' p F A' ∧ A'.Perm A ∧ (∀ q, m ≤ q → A'[q]? = A[q]?) ∧ Exc lt (fA A') m i ∧ (i = i0 → A' = A) ∧ (i0 < i → Par lt (fA A') i) ∧ Same σ σ' F) (m - i0) (by omega)
    ⟨_, A, i0, rfl, by simp [get_put, get_args], by simp [get_put, get_args], by simp [get_put, get_args], by simp [get_put, get_args], rfl, by omega, hi0, h, .refl _, fun _ _ => rfl, he, fun _ => rfl, fun q => by omega, .refl _ _⟩ ?_
  rintro k fr σ1 ⟨t, A1, i, rfl, t0, t1, t2, t7, rfl, hi, him, h1, hp, htl, he, hsame, hpar, hS⟩
  have hl := hp.length_eq
  have w1 : IntKind.i64.wrap (2 * (i : Int)) = ((2 * i : Nat) : Int) := by rw [wrap64] <;> omega
  have w2 : IntKind.i64.wrap (((2 * i : Nat) : Int) + 1) = ((2 * i + 1 : Nat) : Int) := by rw [wrap64] <;> omega
  have w3 : IntKind.i64.wrap (((2 * i + 1 : Nat) : Int) + 1) = ((2 * i + 2 : Nat) : Int) := by rw [wrap64] <;> omega
  have w4 : (((2 * i + 1 : Nat) : Int) < 0) = False := by simp; omega
  have fin : ∀ σ' A', AAt σ' p F A' → A' = A1 → Same σ1 σ' F → Hp.Kids lt (fA A1) m i → Q (.bool (decide ((i0 : Int) < (i : Int))), σ') := by
    intro σ' A' h' e hS' hk
    subst e
    refine hQ σ' A' _ h' hp htl (fun hb => ?_) (fun hb => ?_) (hS.trans hS' (fun b hb => .inl hb))
    · exact heap_of he hk (hpar (by simpa using hb))
    · have hii : i = i0 := by simp at hb; omega
      have := hsame hii
      exact ⟨this, by rw [← this, ← hii]; exact hk⟩
  by_cases c1 : m ≤ 2 * i + 1
  · have d1 : ((m : Int) ≤ ((2 * i + 1 : Nat) : Int)) = True := by simp; omega
    simp (maxSteps := 2000000) only [B0, B1, B2, B3, B4, B5, B6, B7, Gd, extV, Nat.reduceLT, Nat.reduceEqDiff, Nat.reduceBEq, Nat.reduceAdd, Nat.reduceSub, Nat.reduceMul, ↓reduceIte, reduceCtorEq, if_true, if_false, ite_true, ite_false, Int.reduceLT, Int.reduceLE, ptr, t0,  t1,  t2,  t7,  w1,  w2,  d1, rs_tmp (show Try.f154.results = #[.tmp 6] from rfl)]
    exact fin σ1 A1 h1 rfl (.refl _ _) (fun c h0 hc hq => by omega)
  · have d1 : ((m : Int) ≤ ((2 * i + 1 : Nat) : Int)) = False := by simp; omega
    obtain ⟨z, hz⟩ : ∃ x, A1[i]? = some x := ⟨A1[i]'(by omega), List.getElem?_eq_getElem _⟩
    obtain ⟨x, hx⟩ : ∃ x, A1[2 * i + 1]? = some x := ⟨A1[2 * i + 1]'(by omega), List.getElem?_eq_getElem _⟩
    by_cases c2 : 2 * i + 2 < m
    · have d2 : (((2 * i + 2 : Nat) : Int) < (m : Int)) = True := by simp; omega
      obtain ⟨y, hy⟩ : ∃ x, A1[2 * i + 2]? = some x := ⟨A1[2 * i + 2]'(by omega), List.getElem?_eq_getElem _⟩
      simp (maxSteps := 2000000) only [B0, B1, B2, B3, B4, B5, B6, B7, Gd, extV, Nat.reduceLT, Nat.reduceEqDiff, Nat.reduceBEq, Nat.reduceAdd, Nat.reduceSub, Nat.reduceMul, ↓reduceIte, reduceCtorEq, if_true, if_false, ite_true, ite_false, Int.reduceLT, Int.reduceLE, ptr, t0,  t1,  t2,  t7,  w1,  w2,  w3,  w4,  d1,  d2,  inv_less,  inv_swap, rs_tmp (show Try.f154.results = #[.tmp 6] from rfl)]
      refine less' f h1 hy hx fun σ2 h2 hS2 => ?_
      by_cases l1 : lt y x
      · simp (maxSteps := 2000000) only [B0, B1, B2, B3, B4, B5, B6, B7, Gd, extV, Nat.reduceLT, Nat.reduceEqDiff, Nat.reduceBEq, Nat.reduceAdd, Nat.reduceSub, Nat.reduceMul, ↓reduceIte, reduceCtorEq, if_true, if_false, ite_true, ite_false, Int.reduceLT, Int.reduceLE, ptr, t0,  t1,  t2,  t7,  w1,  w2,  w3,  w4,  d1,  d2,  inv_less,  inv_swap,  l1, rs_tmp (show Try.f154.results = #[.tmp 6] from rfl)]
        have hmin : ∀ c, c = 2 * i + 1 ∨ c = 2 * i + 2 → c < m → ¬ lt (fA A1 c) (fA A1 (2 * i + 2)) := by
          rintro c (rfl | rfl) hc
          · exact by rw [fA_of hx, fA_of hy]; exact ordOk.asy _ _ l1
          · exact lt_irr _
        refine less' f h2 hy hz fun σ3 h3 hS3 => ?_
        by_cases l2 : lt y z
        · simp (maxSteps := 2000000) only [B0, B1, B2, B3, B4, B5, B6, B7, Gd, extV, Nat.reduceLT, Nat.reduceEqDiff, Nat.reduceBEq, Nat.reduceAdd, Nat.reduceSub, Nat.reduceMul, ↓reduceIte, reduceCtorEq, if_true, if_false, ite_true, ite_false, Int.reduceLT, Int.reduceLE, ptr, t0,  t1,  t2,  t7,  w1,  w2,  w3,  w4,  d1,  d2,  inv_less,  inv_swap,  l1,  l2, rs_tmp (show Try.f154.results = #[.tmp 6] from rfl)]
          refine swap' f h3 hz hy fun σ4 h4 hS4 => ?_
          simp (maxSteps := 2000000) only [B0, B1, B2, B3, B4, B5, B6, B7, Gd, extV, Nat.reduceLT, Nat.reduceEqDiff, Nat.reduceBEq, Nat.reduceAdd, Nat.reduceSub, Nat.reduceMul, ↓reduceIte, reduceCtorEq, if_true, if_false, ite_true, ite_false, Int.reduceLT, Int.reduceLE, ptr, KInv_normal,  t0,  t1,  t2,  t7,  w1,  w2,  w3,  w4,  d1,  d2,  inv_less,  inv_swap,  l1,  l2, rs_tmp (show Try.f154.results = #[.tmp 6] from rfl)]
          obtain ⟨he', hp'⟩ := down_step ordOk he (j := 2 * i + 2) (by omega) (by omega) hmin (by rw [fA_of hy, fA_of hz]; exact l2)
          rw [← fA_sw hz hy] at he' hp'
          exact ⟨m - (2 * i + 2), by omega, _, _, 2 * i + 2, rfl, by simp [get_put, t0], by simp [get_put, t1], by simp [get_put, t2], by simp [get_put], rfl, by omega, by omega, h4, (set_perm hz hy).trans hp, fun q hq => by rw [List.getElem?_set_ne (by omega), List.getElem?_set_ne (by omega)]; exact htl q hq, he', fun q => by omega, fun _ => hp', ((hS.trans hS2 nofun).trans hS3 nofun).trans hS4 (fun b hb => .inl hb)⟩
        · simp (maxSteps := 2000000) only [B0, B1, B2, B3, B4, B5, B6, B7, Gd, extV, Nat.reduceLT, Nat.reduceEqDiff, Nat.reduceBEq, Nat.reduceAdd, Nat.reduceSub, Nat.reduceMul, ↓reduceIte, reduceCtorEq, if_true, if_false, ite_true, ite_false, Int.reduceLT, Int.reduceLE, ptr, t0,  t1,  t2,  t7,  w1,  w2,  w3,  w4,  d1,  d2,  inv_less,  inv_swap,  l1,  l2, rs_tmp (show Try.f154.results = #[.tmp 6] from rfl)]
          exact fin σ3 A1 h3 rfl ((Same.trans hS2 hS3 nofun).mono nofun) (fun c h0 hc hq => ordOk.tr _ _ _ (by rw [fA_of hz, fA_of hy]; exact l2) (hmin c (by omega) hc))
      · simp (maxSteps := 2000000) only [B0, B1, B2, B3, B4, B5, B6, B7, Gd, extV, Nat.reduceLT, Nat.reduceEqDiff, Nat.reduceBEq, Nat.reduceAdd, Nat.reduceSub, Nat.reduceMul, ↓reduceIte, reduceCtorEq, if_true, if_false, ite_true, ite_false, Int.reduceLT, Int.reduceLE, ptr, t0,  t1,  t2,  t7,  w1,  w2,  w3,  w4,  d1,  d2,  inv_less,  inv_swap,  l1, rs_tmp (show Try.f154.results = #[.tmp 6] from rfl)]
        have hmin : ∀ c, c = 2 * i + 1 ∨ c = 2 * i + 2 → c < m → ¬ lt (fA A1 c) (fA A1 (2 * i + 1)) := by
          rintro c (rfl | rfl) hc
          · exact lt_irr _
          · exact by rw [fA_of hy, fA_of hx]; exact l1
        refine less' f h2 hx hz fun σ3 h3 hS3 => ?_
        by_cases l2 : lt x z
        · simp (maxSteps := 2000000) only [B0, B1, B2, B3, B4, B5, B6, B7, Gd, extV, Nat.reduceLT, Nat.reduceEqDiff, Nat.reduceBEq, Nat.reduceAdd, Nat.reduceSub, Nat.reduceMul, ↓reduceIte, reduceCtorEq, if_true, if_false, ite_true, ite_false, Int.reduceLT, Int.reduceLE, ptr, t0,  t1,  t2,  t7,  w1,  w2,  w3,  w4,  d1,  d2,  inv_less,  inv_swap,  l1,  l2, rs_tmp (show Try.f154.results = #[.tmp 6] from rfl)]
          refine swap' f h3 hz hx fun σ4 h4 hS4 => ?_
          simp (maxSteps := 2000000) only [B0, B1, B2, B3, B4, B5, B6, B7, Gd, extV, Nat.reduceLT, Nat.reduceEqDiff, Nat.reduceBEq, Nat.reduceAdd, Nat.reduceSub, Nat.reduceMul, ↓reduceIte, reduceCtorEq, if_true, if_false, ite_true, ite_false, Int.reduceLT, Int.reduceLE, ptr, KInv_normal,  t0,  t1,  t2,  t7,  w1,  w2,  w3,  w4,  d1,  d2,  inv_less,  inv_swap,  l1,  l2, rs_tmp (show Try.f154.results = #[.tmp 6] from rfl)]
          obtain ⟨he', hp'⟩ := down_step ordOk he (j := 2 * i + 1) (by omega) (by omega) hmin (by rw [fA_of hx, fA_of hz]; exact l2)
          rw [← fA_sw hz hx] at he' hp'
          exact ⟨m - (2 * i + 1), by omega, _, _, 2 * i + 1, rfl, by simp [get_put, t0], by simp [get_put, t1], by simp [get_put, t2], by simp [get_put], rfl, by omega, by omega, h4, (set_perm hz hx).trans hp, fun q hq => by rw [List.getElem?_set_ne (by omega), List.getElem?_set_ne (by omega)]; exact htl q hq, he', fun q => by omega, fun _ => hp', ((hS.trans hS2 nofun).trans hS3 nofun).trans hS4 (fun b hb => .inl hb)⟩
        · simp (maxSteps := 2000000) only [B0, B1, B2, B3, B4, B5, B6, B7, Gd, extV, Nat.reduceLT, Nat.reduceEqDiff, Nat.reduceBEq, Nat.reduceAdd, Nat.reduceSub, Nat.reduceMul, ↓reduceIte, reduceCtorEq, if_true, if_false, ite_true, ite_false, Int.reduceLT, Int.reduceLE, ptr, t0,  t1,  t2,  t7,  w1,  w2,  w3,  w4,  d1,  d2,  inv_less,  inv_swap,  l1,  l2, rs_tmp (show Try.f154.results = #[.tmp 6] from rfl)]
          exact fin σ3 A1 h3 rfl ((Same.trans hS2 hS3 nofun).mono nofun) (fun c h0 hc hq => ordOk.tr _ _ _ (by rw [fA_of hz, fA_of hx]; exact l2) (hmin c (by omega) hc))
    · have d2 : (((2 * i + 2 : Nat) : Int) < (m : Int)) = False := by simp; omega
      by_cases l1 : True
      · simp (maxSteps := 2000000) only [B0, B1, B2, B3, B4, B5, B6, B7, Gd, extV, Nat.reduceLT, Nat.reduceEqDiff, Nat.reduceBEq, Nat.reduceAdd, Nat.reduceSub, Nat.reduceMul, ↓reduceIte, reduceCtorEq, if_true, if_false, ite_true, ite_false, Int.reduceLT, Int.reduceLE, ptr, t0,  t1,  t2,  t7,  w1,  w2,  w3,  w4,  d1,  d2,  inv_less,  inv_swap, rs_tmp (show Try.f154.results = #[.tmp 6] from rfl)]
        have hmin : ∀ c, c = 2 * i + 1 ∨ c = 2 * i + 2 → c < m → ¬ lt (fA A1 c) (fA A1 (2 * i + 1)) := by
          rintro c (rfl | rfl) hc
          · exact lt_irr _
          · omega
        refine less' f h1 hx hz fun σ3 h3 hS3 => ?_
        by_cases l2 : lt x z
        · simp (maxSteps := 2000000) only [B0, B1, B2, B3, B4, B5, B6, B7, Gd, extV, Nat.reduceLT, Nat.reduceEqDiff, Nat.reduceBEq, Nat.reduceAdd, Nat.reduceSub, Nat.reduceMul, ↓reduceIte, reduceCtorEq, if_true, if_false, ite_true, ite_false, Int.reduceLT, Int.reduceLE, ptr, t0,  t1,  t2,  t7,  w1,  w2,  w3,  w4,  d1,  d2,  inv_less,  inv_swap,  l2, rs_tmp (show Try.f154.results = #[.tmp 6] from rfl)]
          refine swap' f h3 hz hx fun σ4 h4 hS4 => ?_
          simp (maxSteps := 2000000) only [B0, B1, B2, B3, B4, B5, B6, B7, Gd, extV, Nat.reduceLT, Nat.reduceEqDiff, Nat.reduceBEq, Nat.reduceAdd, Nat.reduceSub, Nat.reduceMul, ↓reduceIte, reduceCtorEq, if_true, if_false, ite_true, ite_false, Int.reduceLT, Int.reduceLE, ptr, KInv_normal,  t0,  t1,  t2,  t7,  w1,  w2,  w3,  w4,  d1,  d2,  inv_less,  inv_swap,  l2, rs_tmp (show Try.f154.results = #[.tmp 6] from rfl)]
          obtain ⟨he', hp'⟩ := down_step ordOk he (j := 2 * i + 1) (by omega) (by omega) hmin (by rw [fA_of hx, fA_of hz]; exact l2)
          rw [← fA_sw hz hx] at he' hp'
          exact ⟨m - (2 * i + 1), by omega, _, _, 2 * i + 1, rfl, by simp [get_put, t0], by simp [get_put, t1], by simp [get_put, t2], by simp [get_put], rfl, by omega, by omega, h4, (set_perm hz hx).trans hp, fun q hq => by rw [List.getElem?_set_ne (by omega), List.getElem?_set_ne (by omega)]; exact htl q hq, he', fun q => by omega, fun _ => hp', ((hS.trans (Same.refl σ1 []) nofun).trans hS3 nofun).trans hS4 (fun b hb => .inl hb)⟩
        · simp (maxSteps := 2000000) only [B0, B1, B2, B3, B4, B5, B6, B7, Gd, extV, Nat.reduceLT, Nat.reduceEqDiff, Nat.reduceBEq, Nat.reduceAdd, Nat.reduceSub, Nat.reduceMul, ↓reduceIte, reduceCtorEq, if_true, if_false, ite_true, ite_false, Int.reduceLT, Int.reduceLE, ptr, t0,  t1,  t2,  t7,  w1,  w2,  w3,  w4,  d1,  d2,  inv_less,  inv_swap,  l2, rs_tmp (show Try.f154.results = #[.tmp 6] from rfl)]
          exact fin σ3 A1 h3 rfl ((Same.trans (Same.refl σ1 []) hS3 nofun).mono nofun) (fun c h0 hc hq => ordOk.tr _ _ _ (by rw [fA_of hz, fA_of hx]; exact l2) (hmin c (by omega) hc))
      · exact absurd trivial l1
end Go.Proofs.Ytongccpmdndcgaa.Alm
end
/- Alarms: container/heap's Push, Pop, Remove, Fix over them. -/
section
set_option linter.all false
namespace Go.Proofs.Ytongccpmdndcgaa.Alm
open Go Go.AE Go.Hp
set_option maxRecDepth 100000
variable {gs : List Nat} {orc : Orc} {n : Nat} {σ : AHeap} {Q : Value × AHeap → Prop}

theorem Plc.push {A : List Al} {M : Prs} (h : Plc A M) {x : Al} (hx : ∀ y ∈ A, y.1 ≠ x.1) : Plc (A ++ [x]) (mput M x.1 (.int .i64 (A.length : Int))) := by
  have no : mget M x.1 = none := by
    cases q : mget M x.1 with
    | none => rfl
    | some v => obtain ⟨y, hy, e⟩ := h.only x.1 (by rw [q]; rfl); exact absurd e (hx y hy)
  refine ⟨fun i z hz => ?_, ?_, fun s hs => ?_⟩
  · rw [mget_mput]
    rw [List.getElem?_append] at hz
    split at hz
    · have := hx z (List.mem_of_getElem? hz)
      rw [if_neg this]
      exact h.at_ i z hz
    · rename_i hi
      have h0 : i - A.length = 0 := by have := (List.getElem?_eq_some_iff.1 hz).1; simp at this; omega
      have : i = A.length := by omega
      subst this
      simp at hz
      subst hz
      rw [if_pos rfl]
  · rw [len_mput, no]; simp [h.len]
  · rw [mget_mput] at hs
    split at hs
    · rename_i e; exact ⟨x, by simp, e.symm⟩
    · obtain ⟨y, hy, e⟩ := h.only s hs; exact ⟨y, by simp [hy], e⟩
theorem Plc.pop {A : List Al} {M : Prs} (hn : (M.map (·.1)).Nodup) {x : Al} (h : Plc (A ++ [x]) M) : Plc A (mdel M x.1) := by
  have hl : (A ++ [x])[A.length]? = some x := by simp
  refine ⟨fun i z hz => ?_, ?_, fun s hs => ?_⟩
  · have li : i < A.length := (List.getElem?_eq_some_iff.1 hz).1
    have hz' : (A ++ [x])[i]? = some z := by rw [List.getElem?_append_left li]; exact hz
    rw [mget_mdel, if_neg (fun e => by have := h.inj hz' hl e; omega)]
    exact h.at_ i z hz'
  · have := len_mdel hn (s := x.1) (mget_some.1 (by rw [h.at_ _ _ hl]; rfl))
    have h2 := h.len
    simp at h2
    omega
  · rw [mget_mdel] at hs
    split at hs
    · cases hs
    · rename_i q
      obtain ⟨y, hy, e⟩ := h.only s hs
      rcases List.mem_append.1 hy with hy | hy
      · exact ⟨y, hy, e⟩
      · simp at hy; subst hy; exact absurd e.symm q
theorem push' (f : Free orc) {p : Nat} {F : List Nat} {A : List Al} {x : Al} (h : AAt σ p F A) (hxs : x.1.size ≤ 64) (hx : ∀ y ∈ A, y.1 ≠ x.1) (hl : A.length + 1 ≤ 1048576)
    (hQ : ∀ σ' F', AAt σ' p F' (A ++ [x]) → (∀ b ∈ F', b ∈ F ∨ σ.next ≤ b) → Same σ σ' F → Q (.tuple #[], σ')) : W (acall Try.prog gs orc (n + 1) 236 [.agg #[pt p], .iface 32 (alV x)] σ) Q := by
  obtain ⟨sv, m, M, h1, h2, rfl⟩ := h.ex
  refine push_run f h1 (by omega) hl fun σ' sv' h' hb hS => hQ σ' _ ⟨⟨sv', m, _, h', h2.push hx, rfl⟩, fun z hz => ?_⟩ (fun b hb' => ?_) hS
  · rcases List.mem_append.1 hz with hz | hz
    · exact h.keys z hz
    · simp at hz; subst hz; exact hxs
  · simp at hb' ⊢
    rcases hb' with rfl | rfl | q
    · exact .inl (.inl rfl)
    · exact .inl (.inr (.inl rfl))
    · rcases hb b q with q | q
      · exact .inl (.inr (.inr q))
      · exact .inr q
theorem pop' (f : Free orc) {p : Nat} {F : List Nat} {A : List Al} {x : Al} (h : AAt σ p F (A ++ [x])) (hl : A.length + 1 ≤ 1048576)
    (hQ : ∀ σ', AAt σ' p F A → Same σ σ' F → Q (.iface 32 (alV x), σ')) : W (acall Try.prog gs orc (n + 1) 235 [.agg #[pt p]] σ) Q := by
  obtain ⟨sv, m, M, h1, h2, rfl⟩ := h.ex
  refine pop_run f h1 hl fun σ' sv' h' hb hS => hQ σ' ⟨⟨sv', m, _, h', h2.pop h1.map.nodup, by rw [hb]⟩, fun z hz => h.keys z (by simp [hz])⟩ (hS.mono fun b hb => ?_)
  simp at hb ⊢
  omega
theorem len' (f : Free orc) {p : Nat} {F : List Nat} {A : List Al} (h : AAt σ p F A) : W (acall Try.prog gs orc (n + 2) 20 [pt p] σ) Q = Q (.int .i64 (A.length : Int), σ) := by
  obtain ⟨sv, m, M, h1, h2, rfl⟩ := h.ex
  exact len_run f h1
theorem none' (f : Free orc) {p : Nat} {F : List Nat} {A : List Al} (h : AAt σ p F A) : W (acall Try.prog gs orc (n + 1) 99 [pt p] σ) Q = Q (.bool false, σ) := by
  obtain ⟨sv, m, M, h1, h2, rfl⟩ := h.ex
  exact none_run f h1
structure Free2 (orc : Orc) : Prop extends Free orc where
  h103 : orc 103 = none
  h105 : orc 105 = none
  h106 : orc 106 = none
  h107 : orc 107 = none
theorem fA_append {A : List Al} {x : Al} {i : Nat} (hi : i < A.length) : fA (A ++ [x]) i = fA A i := by unfold fA; rw [List.getElem?_append_left hi]
theorem hpush_run (f : Free2 orc) {p : Nat} {F : List Nat} {A : List Al} {x : Al} (h : AAt σ p F A) (hh : Heap lt (fA A) A.length) (hn : A.length + 1 ≤ n) (hN : A.length + 1 ≤ 1048576) (hxs : x.1.size ≤ 64) (hx : ∀ y ∈ A, y.1 ≠ x.1)
    (hQ : ∀ σ' F' A', AAt σ' p F' A' → A'.Perm (A ++ [x]) → Heap lt (fA A') A'.length → (∀ b ∈ F', b ∈ F ∨ σ.next ≤ b) → Same σ σ' F → Q (.tuple #[], σ')) : W (acall Try.prog gs orc (n + 9) 105 [rowsV p, .iface 32 (alV x)] σ) Q := by
  rw [W_start (m := 12) (keep := []) Try.func105 rfl (by kernel_rfl) (by kernel_rfl) (by first | rfl | assumption | exact f.h105) (by rfl)]
  simp (maxSteps := 2000000) only [B0, B1, B2, B3, B4, B5, B6, B7, Gd, extV, Nat.reduceLT, Nat.reduceEqDiff, Nat.reduceBEq, Nat.reduceAdd, Nat.reduceSub, Nat.reduceMul, ↓reduceIte, reduceCtorEq, if_true, if_false, ite_true, ite_false, Int.reduceLT, Int.reduceLE, ptr, callV_func Try.enters_156, inv_push, rs_none (show Try.f105.results = #[] from rfl)]
  refine push' f.toFree h hxs hx hN fun σ1 F1 h1 hF1 hS1 => ?_
  have w1 : IntKind.i64.wrap ((((A ++ [x]).length : Nat) : Int) - 1) = (A.length : Int) := by rw [wrap64] <;> simp <;> omega
  simp (maxSteps := 2000000) only [B0, B1, B2, B3, B4, B5, B6, B7, Gd, extV, Nat.reduceLT, Nat.reduceEqDiff, Nat.reduceBEq, Nat.reduceAdd, Nat.reduceSub, Nat.reduceMul, ↓reduceIte, reduceCtorEq, if_true, if_false, ite_true, ite_false, Int.reduceLT, Int.reduceLE, ptr, callV_func Try.enters_156, inv_push,  inv_len,  len' f.toFree h1,  w1,  callV_func Try.enters_156, rs_none (show Try.f105.results = #[] from rfl)]
  refine up_run f.toFree h1 (m := A.length + 1) (by simp; omega) (by simp; omega) (by simp) (by omega) ⟨fun j j0 jm e1 e2 => ?_, fun k0 c c0 cm ec => by omega⟩ (fun c c0 cm ec => by omega) fun σ2 A2 h2 hp2 _ hh2 hS2 => ?_
  · rw [fA_append (by omega), fA_append (by omega)]; exact hh j j0 (by omega)
  · simp (maxSteps := 2000000) only [B0, B1, B2, B3, B4, B5, B6, B7, Gd, extV, Nat.reduceLT, Nat.reduceEqDiff, Nat.reduceBEq, Nat.reduceAdd, Nat.reduceSub, Nat.reduceMul, ↓reduceIte, reduceCtorEq, if_true, if_false, ite_true, ite_false, Int.reduceLT, Int.reduceLE, ptr, callV_func Try.enters_156, rs_none (show Try.f105.results = #[] from rfl)]
    refine hQ σ2 F1 A2 h2 hp2 (by rw [hp2.length_eq]; simpa using hh2) hF1 ((hS1.trans hS2 hF1))
end Go.Proofs.Ytongccpmdndcgaa.Alm
end
/- Alarms: container/heap's Pop, Remove, Fix over them. -/
section
set_option linter.all false
namespace Go.Proofs.Ytongccpmdndcgaa.Alm
open Go Go.AE Go.Hp
set_option maxRecDepth 100000
variable {gs : List Nat} {orc : Orc} {n : Nat} {σ : AHeap} {Q : Value × AHeap → Prop}

theorem take_last {α : Type} {L : List α} {k : Nat} {x : α} (hl : L.length = k + 1) (h : L[k]? = some x) : L = L.take k ++ [x] := by
  have := List.take_append_drop k L
  have hd : L.drop k = [x] := by
    rw [List.drop_eq_getElem_cons (by omega), List.drop_of_length_le (by omega)]
    have := (List.getElem?_eq_some_iff.1 h).2
    rw [this]
  rw [← hd, this]
theorem fA_take {A : List Al} {k i : Nat} (h : i < k) : fA (A.take k) i = fA A i := by unfold fA; rw [List.getElem?_take, if_pos h]
theorem heap_congr {f g : Nat → Al} {k : Nat} (h : Heap lt f k) (e : ∀ i, i < k → g i = f i) : Heap lt g k := fun j j0 jk => by rw [e j jk, e _ (by omega)]; exact h j j0 jk
/-- What is told behind the last place's swap and repair. -/
theorem tail_pop {A2 : List Al} {k : Nat} {x : Al} (hl : A2.length = k + 1) (hx : A2[k]? = some x) (hh : Heap lt (fA A2) k) : A2 = A2.take k ++ [x] ∧ Heap lt (fA (A2.take k)) (A2.take k).length := by
  refine ⟨take_last hl hx, ?_⟩
  rw [List.length_take, Nat.min_eq_left (by omega)]
  exact heap_congr hh fun i hi => fA_take hi
theorem hpop_run (f : Free2 orc) {p k : Nat} {F : List Nat} {A : List Al} {x : Al} (h : AAt σ p F A) (hl : A.length = k + 1) (hx : A[0]? = some x) (hh : Heap lt (fA A) A.length) (hn : A.length ≤ n) (hN : A.length ≤ 1048576)
    (hQ : ∀ σ' A', AAt σ' p F A' → (x :: A').Perm A → Heap lt (fA A') A'.length → Same σ σ' F → Q (.iface 32 (alV x), σ')) : W (acall Try.prog gs orc (n + 9) 103 [rowsV p] σ) Q := by
  obtain ⟨y, hy⟩ : ∃ y, A[k]? = some y := ⟨A[k]'(by omega), List.getElem?_eq_getElem _⟩
  have w1 : IntKind.i64.wrap ((A.length : Int) - 1) = (k : Int) := by rw [wrap64] <;> omega
  rw [W_start (m := 15) (keep := []) Try.func103 rfl (by kernel_rfl) (by kernel_rfl) (by first | rfl | assumption | exact f.h103) (by rfl)]
  simp (maxSteps := 2000000) only [B0, B1, B2, B3, B4, B5, B6, B7, Gd, extV, Nat.reduceLT, Nat.reduceEqDiff, Nat.reduceBEq, Nat.reduceAdd, Nat.reduceSub, Nat.reduceMul, ↓reduceIte, reduceCtorEq, if_true, if_false, ite_true, ite_false, Int.reduceLT, Int.reduceLE, ptr, callV_func Try.enters_154, inv_len,  len' f.toFree h,  w1,  inv_swap, rs_tmp (show Try.f103.results = #[.tmp 2] from rfl)]
  refine swap' f.toFree h (i := 0) hx hy fun σ1 h1 hS1 => ?_
  have hl1 : ((A.set 0 y).set k x).length = k + 1 := by simp [hl]
  have he : Exc lt (fA ((A.set 0 y).set k x)) k 0 := exc_of ordOk hh (by omega) (by omega) fun i hi i0 => by rw [fA_sw hx hy]; unfold sw; rw [if_neg i0, if_neg (by omega)]
  simp (maxSteps := 2000000) only [B0, B1, B2, B3, B4, B5, B6, B7, Gd, extV, Nat.reduceLT, Nat.reduceEqDiff, Nat.reduceBEq, Nat.reduceAdd, Nat.reduceSub, Nat.reduceMul, ↓reduceIte, reduceCtorEq, if_true, if_false, ite_true, ite_false, Int.reduceLT, Int.reduceLE, ptr, callV_func Try.enters_154, callV_func Try.enters_154, rs_tmp (show Try.f103.results = #[.tmp 2] from rfl)]
  refine down_run f.toFree h1 (i0 := 0) (m := k) (by omega) (by omega) (by omega) (by omega) he fun σ2 A2 b h2 hp2 ht2 hb1 hb2 hS2 => ?_
  have hl2 : A2.length = k + 1 := by rw [hp2.length_eq, hl1]
  have hx2 : A2[k]? = some x := by rw [ht2 k (Nat.le_refl _), List.getElem?_set_self (by simp; omega)]
  have hh2 : Heap lt (fA A2) k := by
    cases b with
    | true => exact hb1 rfl
    | false =>
      obtain ⟨e, hk⟩ := hb2 rfl
      subst e
      exact heap_of he hk (fun q => by omega)
  obtain ⟨e2, hh3⟩ := tail_pop hl2 hx2 hh2
  have h2' := h2
  rw [e2] at h2'
  simp (maxSteps := 2000000) only [B0, B1, B2, B3, B4, B5, B6, B7, Gd, extV, Nat.reduceLT, Nat.reduceEqDiff, Nat.reduceBEq, Nat.reduceAdd, Nat.reduceSub, Nat.reduceMul, ↓reduceIte, reduceCtorEq, if_true, if_false, ite_true, ite_false, Int.reduceLT, Int.reduceLE, ptr, callV_func Try.enters_154, inv_pop, rs_tmp (show Try.f103.results = #[.tmp 2] from rfl)]
  refine pop' f.toFree h2' (by simp; omega) fun σ3 h3 hS3 => ?_
  simp (maxSteps := 2000000) only [B0, B1, B2, B3, B4, B5, B6, B7, Gd, extV, Nat.reduceLT, Nat.reduceEqDiff, Nat.reduceBEq, Nat.reduceAdd, Nat.reduceSub, Nat.reduceMul, ↓reduceIte, reduceCtorEq, if_true, if_false, ite_true, ite_false, Int.reduceLT, Int.reduceLE, ptr, callV_func Try.enters_154, rs_tmp (show Try.f103.results = #[.tmp 2] from rfl)]
  refine hQ σ3 _ h3 ?_ hh3 ((hS1.trans hS2 fun b hb => .inl hb).trans hS3 fun b hb => .inl hb)
  have : (A2.take k ++ [x]).Perm A := by rw [← e2]; exact hp2.trans (set_perm hx hy)
  exact (List.perm_append_singleton x _).symm.trans this
theorem hremove_run (f : Free2 orc) {p k i : Nat} {F : List Nat} {A : List Al} {x : Al} (h : AAt σ p F A) (hl : A.length = k + 1) (hx : A[i]? = some x) (hh : Heap lt (fA A) A.length) (hn : A.length ≤ n) (hN : A.length ≤ 1048576)
    (hQ : ∀ σ' A', AAt σ' p F A' → (x :: A').Perm A → Heap lt (fA A') A'.length → Same σ σ' F → Q (.iface 32 (alV x), σ')) : W (acall Try.prog gs orc (n + 9) 107 [rowsV p, .int .i64 (i : Int)] σ) Q := by
  have li : i < A.length := (List.getElem?_eq_some_iff.1 hx).1
  have w1 : IntKind.i64.wrap ((A.length : Int) - 1) = (k : Int) := by rw [wrap64] <;> omega
  have last : ∀ σ2 A2, AAt σ2 p F A2 → A2.Perm A → A2[k]? = some x → Heap lt (fA A2) k → Same σ σ2 F → ∀ Q', (∀ σ', Q (.iface 32 (alV x), σ') → Q' (.iface 32 (alV x), σ')) → W (acall Try.prog gs orc (n + 8) 235 [.agg #[pt p]] σ2) Q' := by
    intro σ2 A2 h2 hp2 hx2 hh2 hS2 Q' hQ'
    have hl2 : A2.length = k + 1 := by rw [hp2.length_eq, hl]
    obtain ⟨e2, hh3⟩ := tail_pop hl2 hx2 hh2
    have h2' := h2
    rw [e2] at h2'
    refine pop' f.toFree h2' (by simp; omega) fun σ3 h3 hS3 => hQ' _ (hQ σ3 _ h3 ?_ hh3 (hS2.trans hS3 fun b hb => .inl hb))
    have : (A2.take k ++ [x]).Perm A := by rw [← e2]; exact hp2
    exact (List.perm_append_singleton x _).symm.trans this
  rw [W_start (m := 26) (keep := []) Try.func107 rfl (by kernel_rfl) (by kernel_rfl) (by first | rfl | assumption | exact f.h107) (by rfl)]
  by_cases ki : k = i
  · subst ki
    simp (maxSteps := 2000000) only [B0, B1, B2, B3, B4, B5, B6, B7, Gd, extV, Nat.reduceLT, Nat.reduceEqDiff, Nat.reduceBEq, Nat.reduceAdd, Nat.reduceSub, Nat.reduceMul, ↓reduceIte, reduceCtorEq, if_true, if_false, ite_true, ite_false, Int.reduceLT, Int.reduceLE, ptr, callV_func Try.enters_154, callV_func Try.enters_156, inv_len,  len' f.toFree h,  w1,  inv_pop, rs_tmp (show Try.f107.results = #[.tmp 4] from rfl)]
    refine last σ A h (.refl _) hx (fun j j0 jk => hh j j0 (by omega)) (.refl _ _) _ fun σ' hq => ?_
    simp (maxSteps := 2000000) only [B0, B1, B2, B3, B4, B5, B6, B7, Gd, extV, Nat.reduceLT, Nat.reduceEqDiff, Nat.reduceBEq, Nat.reduceAdd, Nat.reduceSub, Nat.reduceMul, ↓reduceIte, reduceCtorEq, if_true, if_false, ite_true, ite_false, Int.reduceLT, Int.reduceLE, ptr, callV_func Try.enters_154, callV_func Try.enters_156, rs_tmp (show Try.f107.results = #[.tmp 4] from rfl)]
    exact hq
  · obtain ⟨y, hy⟩ : ∃ y, A[k]? = some y := ⟨A[k]'(by omega), List.getElem?_eq_getElem _⟩
    have d1 : ((k : Int) = (i : Int)) = False := by simp; omega
    simp (maxSteps := 2000000) only [B0, B1, B2, B3, B4, B5, B6, B7, Gd, extV, Nat.reduceLT, Nat.reduceEqDiff, Nat.reduceBEq, Nat.reduceAdd, Nat.reduceSub, Nat.reduceMul, ↓reduceIte, reduceCtorEq, if_true, if_false, ite_true, ite_false, Int.reduceLT, Int.reduceLE, ptr, callV_func Try.enters_154, callV_func Try.enters_156, inv_len,  len' f.toFree h,  w1,  inv_swap,  d1, rs_tmp (show Try.f107.results = #[.tmp 4] from rfl)]
    refine swap' f.toFree h hx hy fun σ1 h1 hS1 => ?_
    have hl1 : ((A.set i y).set k x).length = k + 1 := by simp [hl]
    have he : Exc lt (fA ((A.set i y).set k x)) k i := exc_of ordOk hh (by omega) li fun j hj ji => by rw [fA_sw hx hy]; unfold sw; rw [if_neg ji, if_neg (by omega)]
    simp (maxSteps := 2000000) only [B0, B1, B2, B3, B4, B5, B6, B7, Gd, extV, Nat.reduceLT, Nat.reduceEqDiff, Nat.reduceBEq, Nat.reduceAdd, Nat.reduceSub, Nat.reduceMul, ↓reduceIte, reduceCtorEq, if_true, if_false, ite_true, ite_false, Int.reduceLT, Int.reduceLE, ptr, callV_func Try.enters_154, callV_func Try.enters_156, callV_func Try.enters_154, rs_tmp (show Try.f107.results = #[.tmp 4] from rfl)]
    refine down_run f.toFree h1 (i0 := i) (m := k) (by omega) (by omega) (by omega) (by omega) he fun σ2 A2 b h2 hp2 ht2 hb1 hb2 hS2 => ?_
    have hx2 : A2[k]? = some x := by rw [ht2 k (Nat.le_refl _), List.getElem?_set_self (by simp; omega)]
    have hp3 : A2.Perm A := hp2.trans (set_perm hx hy)
    cases b with
    | true =>
      simp (maxSteps := 2000000) only [B0, B1, B2, B3, B4, B5, B6, B7, Gd, extV, Nat.reduceLT, Nat.reduceEqDiff, Nat.reduceBEq, Nat.reduceAdd, Nat.reduceSub, Nat.reduceMul, ↓reduceIte, reduceCtorEq, if_true, if_false, ite_true, ite_false, Int.reduceLT, Int.reduceLE, ptr, callV_func Try.enters_154, callV_func Try.enters_156, inv_pop, rs_tmp (show Try.f107.results = #[.tmp 4] from rfl)]
      refine last σ2 A2 h2 hp3 hx2 (hb1 rfl) (hS1.trans hS2 fun b hb => .inl hb) _ fun σ' hq => ?_
      simp (maxSteps := 2000000) only [B0, B1, B2, B3, B4, B5, B6, B7, Gd, extV, Nat.reduceLT, Nat.reduceEqDiff, Nat.reduceBEq, Nat.reduceAdd, Nat.reduceSub, Nat.reduceMul, ↓reduceIte, reduceCtorEq, if_true, if_false, ite_true, ite_false, Int.reduceLT, Int.reduceLE, ptr, callV_func Try.enters_154, callV_func Try.enters_156, rs_tmp (show Try.f107.results = #[.tmp 4] from rfl)]
      exact hq
    | false =>
      obtain ⟨e, hk⟩ := hb2 rfl
      subst e
      simp (maxSteps := 2000000) only [B0, B1, B2, B3, B4, B5, B6, B7, Gd, extV, Nat.reduceLT, Nat.reduceEqDiff, Nat.reduceBEq, Nat.reduceAdd, Nat.reduceSub, Nat.reduceMul, ↓reduceIte, reduceCtorEq, if_true, if_false, ite_true, ite_false, Int.reduceLT, Int.reduceLE, ptr, callV_func Try.enters_154, callV_func Try.enters_156, callV_func Try.enters_156, rs_tmp (show Try.f107.results = #[.tmp 4] from rfl)]
      refine up_run f.toFree h2 (m := k) (by omega) (by omega) (by omega) (by omega) he hk fun σ3 A3 h3 hp4 ht3 hh3 hS3 => ?_
      simp (maxSteps := 2000000) only [B0, B1, B2, B3, B4, B5, B6, B7, Gd, extV, Nat.reduceLT, Nat.reduceEqDiff, Nat.reduceBEq, Nat.reduceAdd, Nat.reduceSub, Nat.reduceMul, ↓reduceIte, reduceCtorEq, if_true, if_false, ite_true, ite_false, Int.reduceLT, Int.reduceLE, ptr, callV_func Try.enters_154, callV_func Try.enters_156, inv_pop, rs_tmp (show Try.f107.results = #[.tmp 4] from rfl)]
      refine last σ3 A3 h3 (hp4.trans hp3) (by rw [ht3 k (Nat.le_refl _)]; exact hx2) hh3 ((hS1.trans hS2 fun b hb => .inl hb).trans hS3 fun b hb => .inl hb) _ fun σ' hq => ?_
      simp (maxSteps := 2000000) only [B0, B1, B2, B3, B4, B5, B6, B7, Gd, extV, Nat.reduceLT, Nat.reduceEqDiff, Nat.reduceBEq, Nat.reduceAdd, Nat.reduceSub, Nat.reduceMul, ↓reduceIte, reduceCtorEq, if_true, if_false, ite_true, ite_false, Int.reduceLT, Int.reduceLE, ptr, callV_func Try.enters_154, callV_func Try.enters_156, rs_tmp (show Try.f107.results = #[.tmp 4] from rfl)]
      exact hq
theorem hfix_run (f : Free2 orc) {p i : Nat} {F : List Nat} {A : List Al} (h : AAt σ p F A) (hi : i < A.length) (he : Exc lt (fA A) A.length i) (hn : A.length ≤ n) (hN : A.length ≤ 1048576)
    (hQ : ∀ σ' A', AAt σ' p F A' → A'.Perm A → Heap lt (fA A') A'.length → Same σ σ' F → Q (.tuple #[], σ')) : W (acall Try.prog gs orc (n + 9) 106 [rowsV p, .int .i64 (i : Int)] σ) Q := by
  rw [W_start (m := 13) (keep := []) Try.func106 rfl (by kernel_rfl) (by kernel_rfl) (by first | rfl | assumption | exact f.h106) (by rfl)]
  simp (maxSteps := 2000000) only [B0, B1, B2, B3, B4, B5, B6, B7, Gd, extV, Nat.reduceLT, Nat.reduceEqDiff, Nat.reduceBEq, Nat.reduceAdd, Nat.reduceSub, Nat.reduceMul, ↓reduceIte, reduceCtorEq, if_true, if_false, ite_true, ite_false, Int.reduceLT, Int.reduceLE, ptr, callV_func Try.enters_154, callV_func Try.enters_156, inv_len,  len' f.toFree h,  callV_func Try.enters_154, rs_none (show Try.f106.results = #[] from rfl)]
  refine down_run f.toFree h (i0 := i) (m := A.length) (by omega) (by omega) (by omega) (by omega) he fun σ2 A2 b h2 hp2 ht2 hb1 hb2 hS2 => ?_
  cases b with
  | true =>
    simp (maxSteps := 2000000) only [B0, B1, B2, B3, B4, B5, B6, B7, Gd, extV, Nat.reduceLT, Nat.reduceEqDiff, Nat.reduceBEq, Nat.reduceAdd, Nat.reduceSub, Nat.reduceMul, ↓reduceIte, reduceCtorEq, if_true, if_false, ite_true, ite_false, Int.reduceLT, Int.reduceLE, ptr, callV_func Try.enters_154, callV_func Try.enters_156, rs_none (show Try.f106.results = #[] from rfl)]
    exact hQ σ2 A2 h2 hp2 (by rw [hp2.length_eq]; exact hb1 rfl) hS2
  | false =>
    obtain ⟨e, hk⟩ := hb2 rfl
    subst e
    simp (maxSteps := 2000000) only [B0, B1, B2, B3, B4, B5, B6, B7, Gd, extV, Nat.reduceLT, Nat.reduceEqDiff, Nat.reduceBEq, Nat.reduceAdd, Nat.reduceSub, Nat.reduceMul, ↓reduceIte, reduceCtorEq, if_true, if_false, ite_true, ite_false, Int.reduceLT, Int.reduceLE, ptr, callV_func Try.enters_154, callV_func Try.enters_156, callV_func Try.enters_156, rs_none (show Try.f106.results = #[] from rfl)]
    refine up_run f.toFree h2 (m := A2.length) (by omega) (by omega) (by omega) hi he hk fun σ3 A3 h3 hp3 _ hh3 hS3 => ?_
    simp (maxSteps := 2000000) only [B0, B1, B2, B3, B4, B5, B6, B7, Gd, extV, Nat.reduceLT, Nat.reduceEqDiff, Nat.reduceBEq, Nat.reduceAdd, Nat.reduceSub, Nat.reduceMul, ↓reduceIte, reduceCtorEq, if_true, if_false, ite_true, ite_false, Int.reduceLT, Int.reduceLE, ptr, callV_func Try.enters_154, callV_func Try.enters_156, rs_none (show Try.f106.results = #[] from rfl)]
    exact hQ σ3 A3 h3 hp3 (by rw [hp3.length_eq]; exact hh3) (hS2.trans hS3 fun b hb => .inl hb)
end Go.Proofs.Ytongccpmdndcgaa.Alm
end
/- Alarms: what their methods do. -/
section
set_option linter.all false
namespace Go.Proofs.Ytongccpmdndcgaa.Alm
open Go Go.AE Go.Hp
set_option maxRecDepth 100000
variable {gs : List Nat} {orc : Orc} {n : Nat} {σ : AHeap} {Q : Value × AHeap → Prop}

structure Free3 (orc : Orc) : Prop extends Free2 orc where
  h19 : orc 19 = none
  h22 : orc 22 = none
  h23 : orc 23 = none
  h24 : orc 24 = none
  h26 : orc 26 = none
  h27 : orc 27 = none
  h28 : orc 28 = none
  h30 : orc 30 = none
  h100 : orc 100 = none
/-- Alarms in memory, told in order. -/
structure HAt (σ : AHeap) (p : Nat) (F : List Nat) (L : List Al) : Prop where
  ex : ∃ A, AAt σ p F A ∧ Heap lt (fA A) A.length ∧ A.Perm L
  srt : L.Pairwise lt
  vals : ∀ x ∈ L, 0 < x.1.size ∧ 0 ≤ x.2 ∧ x.2 ≤ 1099511627776
theorem HAt.same {σ' : AHeap} {p : Nat} {F G : List Nat} {L : List Al} (h : HAt σ p F L) (hs : Same σ σ' G) (hd : ∀ b ∈ F, b ∉ G) : HAt σ' p F L := by
  obtain ⟨A, h1, h2, h3⟩ := h.ex; exact ⟨⟨A, h1.same hs hd, h2, h3⟩, h.srt, h.vals⟩
theorem HAt.low {p : Nat} {F : List Nat} {L : List Al} (h : HAt σ p F L) : ∀ b ∈ F, b < σ.next := by obtain ⟨A, h1, _⟩ := h.ex; exact h1.lt
theorem Plc.kd {A : List Al} {M : Prs} (h : Plc A M) : KD A := by
  unfold KD
  refine List.pairwise_iff_getElem.2 fun i j hi hj hij e => ?_
  have li : i < A.length := by simpa using hi
  have lj : j < A.length := by simpa using hj
  have := h.inj (List.getElem?_eq_getElem li) (List.getElem?_eq_getElem lj) (by simpa using e)
  omega
theorem AAt.kd {p : Nat} {F : List Nat} {A : List Al} (h : AAt σ p F A) : KD A := by obtain ⟨_, _, _, _, h2, _⟩ := h.ex; exact h2.kd
theorem HAt.kd {p : Nat} {F : List Nat} {L : List Al} (h : HAt σ p F L) : KD L := by obtain ⟨A, h1, _, h3⟩ := h.ex; exact h1.kd.perm h3
theorem HAt.keys {p : Nat} {F : List Nat} {L : List Al} (h : HAt σ p F L) : ∀ x ∈ L, x.1.size ≤ 64 := by obtain ⟨A, h1, _, h3⟩ := h.ex; exact fun x hx => h1.keys x (h3.mem_iff.2 hx)
theorem HAt.of {p : Nat} {F : List Nat} {A L : List Al} (h : AAt σ p F A) (hh : Heap lt (fA A) A.length) (hp : A.Perm L) (hs : L.Pairwise lt) (hv : ∀ x ∈ L, 0 < x.1.size ∧ 0 ≤ x.2 ∧ x.2 ≤ 1099511627776) : HAt σ p F L := ⟨⟨A, h, hh, hp⟩, hs, hv⟩
theorem len_h (f : Free orc) {p : Nat} {F : List Nat} {L : List Al} (h : HAt σ p F L) : W (acall Try.prog gs orc (n + 2) 20 [pt p] σ) Q = Q (.int .i64 (L.length : Int), σ) := by
  obtain ⟨A, h1, _, h3⟩ := h.ex
  rw [len' f h1, h3.length_eq]
theorem none_h (f : Free orc) {p : Nat} {F : List Nat} {L : List Al} (h : HAt σ p F L) : W (acall Try.prog gs orc (n + 1) 99 [pt p] σ) Q = Q (.bool false, σ) := by
  obtain ⟨A, h1, _, h3⟩ := h.ex
  exact none' f h1
theorem b58 {m : Option Nat} : build' Try.prog 58 [(1, .map m)] = some (.agg #[.slice none 0 0, .map m]) := by kernel_rfl
theorem b175 {a : Option Addr} : build' Try.prog 175 [(0, .pointer a)] = some (.agg #[.pointer a]) := by kernel_rfl
theorem b32 {s : ByteArray} {t : Int} : build' Try.prog 32 [(0, .string s), (1, .int .i64 t)] = some (.agg #[.string s, .int .i64 t]) := by kernel_rfl
theorem b32z : build' Try.prog 32 [] = some (.agg #[.string ⟨#[]⟩, .int .i64 0]) := by kernel_rfl
theorem new_run (f : Free3 orc) (hQ : ∀ σ' p F, HAt σ' p F [] → (∀ b ∈ F, σ.next ≤ b) → Same σ σ' [] → Q (pt p, σ')) : W (acall Try.prog gs orc (n + 1) 27 [] σ) Q := by
  rw [W_start (m := 4) (keep := []) Try.func27 rfl (by kernel_rfl) (by kernel_rfl) (by first | rfl | assumption | exact f.h27) (by rfl)]
  simp (maxSteps := 2000000) only [B0, B1, B2, B3, B4, B5, B6, B7, Gd, extV, Nat.reduceLT, Nat.reduceEqDiff, Nat.reduceBEq, Nat.reduceAdd, Nat.reduceSub, Nat.reduceMul, ↓reduceIte, reduceCtorEq, if_true, if_false, ite_true, ite_false, Int.reduceLT, Int.reduceLE, ptr, Value.cells,  b58,  AE.next_new, rs_tmp (show Try.f27.results = #[.tmp 0] from rfl)]
  have hS : Same σ (newCells (σ.new (.map [] 0 false)).2 58 [.slice none 0 0, .map (some σ.next)]).2 [] := (Same.new _ _).trans (.newCells _ _ _ _) nofun
  refine hQ _ (σ.next + 1) [σ.next + 1, σ.next] ⟨⟨[], ⟨⟨.slice none 0 0, σ.next, [], ⟨?_, ?_, by omega, by simp [blks], by simp [blks], ?_, .inl ⟨rfl, rfl⟩, ?_⟩, ⟨fun i x h => by simp at h, rfl, fun s h => by simp [mget] at h⟩, rfl⟩, nofun⟩, fun j j0 jn => by simp at jn, .refl _⟩, .nil, nofun⟩ (fun b hb => by simp at hb; omega) hS
  · simp [next_newCells, AE.next_new]
  · simp [next_newCells, AE.next_new]; omega
  · exact ⟨_, _, _, by rw [get_newCells, AE.next_new, if_pos rfl], by rw [Tr.get_of]; rfl, by rw [Tr.get_of]; rfl⟩
  · exact (MapAt.nil σ).of_get (by rw [get_newCells, AE.next_new, if_neg (by omega)])
theorem next_run (f : Free3 orc) {p : Nat} {F : List Nat} {L : List Al} (h : HAt σ p F L)
    (hQ : ∀ σ' b, Same σ σ' [] → (L = [] → b = false) → (∀ x l, L = x :: l → b = true) → Q (.tuple #[alV (L.headD (⟨#[]⟩, 0)), .bool b], σ')) : W (acall Try.prog gs orc (n + 3) 23 [pt p] σ) Q := by
  obtain ⟨σ1, e1, hS1, hn1⟩ : ∃ σ1, (newCells σ 32 [.string ⟨#[]⟩, .int .i64 0]).2 = σ1 ∧ Same σ σ1 [] ∧ σ1.next = σ.next + 1 := ⟨_, rfl, .newCells _ _ _ _, rfl⟩
  have h1 := h.same hS1 nofun
  cases L with
  | nil =>
    obtain ⟨σ2, t2, hld, hldc, hS2, hn2⟩ := alloc_store (σ := σ) (e := 32) (zs := [.string ⟨#[]⟩, .int .i64 0]) (vs := [.string ⟨#[]⟩, .int .i64 0]) (g := false) (by intro v hv; simp at hv; rcases hv with rfl | rfl <;> rfl) (by simp)
    have hldc' : ldCells σ2 σ.next 0 2 = some [.string ⟨#[]⟩, .int .i64 0] := hldc
    rw [e1] at t2
    rw [W_start (m := 14) (keep := []) Try.func23 rfl (by kernel_rfl) (by kernel_rfl) (by first | rfl | assumption | exact f.h23) (by rfl)]
    simp (maxSteps := 2000000) only [B0, B1, B2, B3, B4, B5, B6, B7, Gd, extV, Nat.reduceLT, Nat.reduceEqDiff, Nat.reduceBEq, Nat.reduceAdd, Nat.reduceSub, Nat.reduceMul, ↓reduceIte, reduceCtorEq, if_true, if_false, ite_true, ite_false, Int.reduceLT, Int.reduceLE, ptr, allocV_zero Try.zero_32, callV_func Try.enters_20, Try.st_32, Try.fa_58_0, Try.ld_27, Try.ia_27, Try.ld_32, Value.cells,  allocV_zero Try.zero_32,  callV_func Try.enters_20,  e1,  len_h f.toFree h1,  b32z,  Try.st_32,  List.size_toArray,  t2,  hldc',  Try.ld_32, rs_ct (show Try.f23.results = #[.cell 2 32,  .tmp 3] from rfl)]
    exact hQ σ2 false hS2 (fun _ => rfl) (fun x l e => by cases e)
  | cons x l =>
    obtain ⟨A, g1, hh, hp⟩ := h1.ex
    obtain ⟨sv, m, M, g2, g3, rfl⟩ := g1.ex
    have hx := head_min hp h.srt hh
    obtain ⟨b, o, cap, g, rfl, hcap, hb, hr⟩ := g2.row.at_ hx
    have hc := hr.ldCells encOk hx
    simp only [encA, Nat.zero_mul, Nat.add_zero] at hc
    have hl0 : 0 < A.length := (List.getElem?_eq_some_iff.1 hx).1
    obtain ⟨σ2, t2, hld, hldc, hS2, hn2⟩ := alloc_store (σ := σ) (e := 32) (zs := [.string ⟨#[]⟩, .int .i64 0]) (vs := [.string x.1, .int .i64 x.2]) (g := false) (by intro v hv; simp at hv; rcases hv with rfl | rfl <;> rfl) (by simp)
    have hldc' : ldCells σ2 σ.next 0 2 = some [.string x.1, .int .i64 x.2] := hldc
    rw [e1] at t2
    have d1 : ((((l.length + 1 : Nat) : Int)) = 0) = False := by simp; omega
    rw [W_start (m := 14) (keep := []) Try.func23 rfl (by kernel_rfl) (by kernel_rfl) (by first | rfl | assumption | exact f.h23) (by rfl)]
    simp (maxSteps := 2000000) only [B0, B1, B2, B3, B4, B5, B6, B7, Gd, extV, Nat.reduceLT, Nat.reduceEqDiff, Nat.reduceBEq, Nat.reduceAdd, Nat.reduceSub, Nat.reduceMul, ↓reduceIte, reduceCtorEq, if_true, if_false, ite_true, ite_false, Int.reduceLT, Int.reduceLE, ptr, allocV_zero Try.zero_32, callV_func Try.enters_20, Try.st_32, Try.fa_58_0, Try.ld_27, Try.ia_27, Try.ld_32, Value.cells,  allocV_zero Try.zero_32,  callV_func Try.enters_20,  e1,  len_h f.toFree h1,  d1,  Try.fa_58_0,  Try.ld_27,  g2.ld0,  Try.ia_27,  hl0,  Nat.zero_mul,  hc,  Try.st_32,  List.size_toArray,  t2,  hldc',  Try.ld_32, rs_ct (show Try.f23.results = #[.cell 2 32,  .tmp 3] from rfl)]
    exact hQ σ2 true hS2 (fun e => by cases e) (fun _ _ _ => rfl)
end Go.Proofs.Ytongccpmdndcgaa.Alm
end
/- Alarms: At, Drop, Set. -/
section
set_option linter.all false
namespace Go.Proofs.Ytongccpmdndcgaa.Alm
open Go Go.AE Go.Hp
set_option maxRecDepth 100000
variable {gs : List Nat} {orc : Orc} {n : Nat} {σ : AHeap} {Q : Value × AHeap → Prop}

/-- A key sought. -/
theorem seek {p m : Nat} {sv : Value} {A L : List Al} {M : Prs} (h : AlAt σ p sv m A M) (hp : Plc A M) (hl : A.Perm L) (k : ByteArray) :
    ((∀ y ∈ L, y.1 ≠ k) ∧ mget M k = none ∧ getA k L = none) ∨ ∃ (i : Nat) (x : Al), A[i]? = some x ∧ x.1 = k ∧ mget M k = some (.int .i64 (i : Int)) ∧ getA k L = some x.2 := by
  cases q : mget M k with
  | none =>
    left
    have no : ∀ y ∈ L, y.1 ≠ k := fun y hy e => by
      obtain ⟨i, hi, ei⟩ := List.mem_iff_getElem.1 (hl.mem_iff.2 hy)
      have := hp.at_ i y (by rw [List.getElem?_eq_getElem hi, ei])
      rw [e, q] at this
      cases this
    exact ⟨no, rfl, getA_none no⟩
  | some v =>
    right
    obtain ⟨x, hx, e⟩ := hp.only k (by rw [q]; rfl)
    obtain ⟨i, hi, ei⟩ := List.mem_iff_getElem.1 hx
    have hix : A[i]? = some x := by rw [List.getElem?_eq_getElem hi, ei]
    have := hp.at_ i x hix
    rw [e, q] at this
    exact ⟨i, x, hix, e, this, by rw [← e]; exact getA_mem (hp.kd.perm hl) (hl.mem_iff.1 hx)⟩
theorem drop_run (f : Free3 orc) {p : Nat} {F : List Nat} {L : List Al} (h : HAt σ p F L) (k : ByteArray) (hn : L.length ≤ n) (hN : L.length ≤ 1048576)
    (hQ : ∀ σ', HAt σ' p F (remA k L) → Same σ σ' F → Q (.int .i64 (if (getA k L).isSome then 0 else 6), σ')) :
    W (acall Try.prog gs orc (n + 10) 30 [pt p, .string k] σ) Q := by
  obtain ⟨A, h1, hh, hp⟩ := h.ex
  obtain ⟨sv, m, M, h2, h3, rfl⟩ := h1.ex
  have hlk := lookup_spec Try.underlying56 Try.underlying9 Try.zero_3 h2.map k true
  have hll := hp.length_eq
  rcases seek h2 h3 hp k with ⟨e0, e1, e2⟩ | ⟨i, x, hi, hx, e1, e2⟩
  · rw [e1] at hlk
    simp only [if_true, Option.getD_none, Option.isSome_none] at hlk
    rw [W_start (m := 25) (keep := []) Try.func30 rfl (by kernel_rfl) (by kernel_rfl) (by first | rfl | assumption | exact f.h30) (by rfl)]
    simp (maxSteps := 2000000) only [B0, B1, B2, B3, B4, B5, B6, B7, Gd, extV, Nat.reduceLT, Nat.reduceEqDiff, Nat.reduceBEq, Nat.reduceAdd, Nat.reduceSub, Nat.reduceMul, ↓reduceIte, reduceCtorEq, if_true, if_false, ite_true, ite_false, Int.reduceLT, Int.reduceLE, ptr, callV_func Try.enters_99, Try.fa_58_1, Try.ld_56, Try.mi_175, callV_func Try.enters_107, callV_func Try.enters_99,  none_h f.toFree h,  Try.fa_58_1,  Try.ld_56,  h2.ld1,  hlk, rs_tmp (show Try.f30.results = #[.tmp 4] from rfl)]
    have := hQ σ (by rw [remA_not e0]; exact h) (.refl _ _)
    rw [e2] at this
    exact this
  · rw [e1] at hlk
    simp only [if_true, Option.getD_some, Option.isSome_some] at hlk
    have li : i < A.length := (List.getElem?_eq_some_iff.1 hi).1
    rw [W_start (m := 25) (keep := []) Try.func30 rfl (by kernel_rfl) (by kernel_rfl) (by first | rfl | assumption | exact f.h30) (by rfl)]
    simp (maxSteps := 2000000) only [B0, B1, B2, B3, B4, B5, B6, B7, Gd, extV, Nat.reduceLT, Nat.reduceEqDiff, Nat.reduceBEq, Nat.reduceAdd, Nat.reduceSub, Nat.reduceMul, ↓reduceIte, reduceCtorEq, if_true, if_false, ite_true, ite_false, Int.reduceLT, Int.reduceLE, ptr, callV_func Try.enters_99, Try.fa_58_1, Try.ld_56, Try.mi_175, callV_func Try.enters_107, callV_func Try.enters_99,  none_h f.toFree h,  Try.fa_58_1,  Try.ld_56,  h2.ld1,  hlk,  b175,  Try.mi_175,  callV_func Try.enters_107, rs_tmp (show Try.f30.results = #[.tmp 4] from rfl)]
    refine hremove_run f.toFree2 h1 (k := A.length - 1) (by omega) hi hh (by omega) (by omega) fun σ1 A1 g1 gp gh gS => ?_
    simp (maxSteps := 2000000) only [B0, B1, B2, B3, B4, B5, B6, B7, Gd, extV, Nat.reduceLT, Nat.reduceEqDiff, Nat.reduceBEq, Nat.reduceAdd, Nat.reduceSub, Nat.reduceMul, ↓reduceIte, reduceCtorEq, if_true, if_false, ite_true, ite_false, Int.reduceLT, Int.reduceLE, ptr, callV_func Try.enters_99, Try.fa_58_1, Try.ld_56, Try.mi_175, callV_func Try.enters_107, rs_tmp (show Try.f30.results = #[.tmp 4] from rfl)]
    have hk := h1.kd
    have := hQ σ1 (HAt.of g1 gh (L := remA k L) ?_ (remA_pair h.srt) fun y hy => h.vals y (mem_remA.1 hy).1) gS
    · rw [e2] at this; exact this
    · have q1 : (remA k (x :: A1)).Perm (remA k L) := remA_perm (gp.trans hp)
      rw [← hx, remA_cons_self (hk.perm gp.symm)] at q1
      rw [← hx]; exact q1
end Go.Proofs.Ytongccpmdndcgaa.Alm
end
/- Alarms: Set. -/
section
set_option linter.all false
namespace Go.Proofs.Ytongccpmdndcgaa.Alm
open Go Go.AE Go.Hp
set_option maxRecDepth 100000
variable {gs : List Nat} {orc : Orc} {n : Nat} {σ : AHeap} {Q : Value × AHeap → Prop}

theorem AlAt.putAt {p m b o len cap : Nat} {A : List Al} {M : Prs} (h : AlAt σ p (.slice (some ⟨b, o, none⟩) len cap) m A M) {i : Nat} {x : Al} (hi : A[i]? = some x) (t : Int) :
    ∃ σ', stCells σ b (o + i * 2 + 1) [.int .i64 t] = some σ' ∧ AlAt σ' p (.slice (some ⟨b, o, none⟩) len cap) m (A.set i (x.1, t)) M ∧ Same σ σ' [b] := by
  obtain ⟨b', o', cap', g, e, hc, hb, hr⟩ := h.row.at_ hi
  injection e with e1 e2 e3
  injection e1 with e1
  injection e1 with e1 e4
  subst e1 e2 e3 e4
  obtain ⟨ob, h1, h2⟩ := hr.putField encOk hi hc (j := 1) (v := .int .i64 t) (y := (x.1, t)) rfl (by omega) rfl
  have hs := Same.set σ b ob
  have hp : p ∉ [b] := fun q => h.ps (by simpa [blks] using q)
  have hm : m ∉ [b] := fun q => h.ms (by simpa [blks] using q)
  refine ⟨σ.set b ob, h1, ⟨h.lp, h.lm, h.pm, h.ps, h.ms, ?_, .inr (.inr ⟨b, o, cap, g, by rw [List.length_set], by rw [List.length_set]; exact hc, hb, h2⟩), h.map.of_get (hs.get m h.lm hm)⟩, hs⟩
  obtain ⟨np, cp, gp, e, r⟩ := h.obj
  exact ⟨np, cp, gp, by rw [hs.get p h.lp hp]; exact e, r⟩
theorem set_erase {α : Type} (y : α) : ∀ (A : List α) (i : Nat), i < A.length → (A.set i y).Perm (y :: A.eraseIdx i)
  | [], i, h => by simp at h
  | a :: A, 0, _ => .refl _
  | a :: A, i + 1, h => by
    rw [List.set_cons_succ, List.eraseIdx_cons_succ]
    exact ((set_erase y A i (by simpa using h)).cons a).trans (.swap _ _ _)
theorem erase_perm {α : Type} {x : α} : ∀ (A : List α) (i : Nat), A[i]? = some x → (x :: A.eraseIdx i).Perm A
  | [], i, h => by simp at h
  | a :: A, 0, h => by simp at h; subst h; exact .refl _
  | a :: A, i + 1, h => by
    rw [List.eraseIdx_cons_succ]
    exact (List.Perm.swap _ _ _).trans ((erase_perm A i (by simpa using h)).cons a)
theorem Plc.setAt {A : List Al} {M : Prs} (h : Plc A M) {i : Nat} {x : Al} (hi : A[i]? = some x) (t : Int) : Plc (A.set i (x.1, t)) M := by
  have li : i < A.length := (List.getElem?_eq_some_iff.1 hi).1
  refine ⟨fun j z hz => ?_, by rw [List.length_set]; exact h.len, fun s hs => ?_⟩
  · by_cases e : j = i
    · subst e
      rw [List.getElem?_set_self li] at hz
      cases hz
      exact h.at_ j x hi
    · rw [List.getElem?_set_ne (fun q => e q.symm)] at hz
      exact h.at_ j z hz
  · obtain ⟨z, hz, e⟩ := h.only s hs
    obtain ⟨j, hj, ej⟩ := List.mem_iff_getElem.1 hz
    by_cases q : j = i
    · subst q
      rw [List.getElem?_eq_getElem hj, ej] at hi
      cases hi
      exact ⟨_, List.mem_of_getElem? (List.getElem?_set_self hj), e⟩
    · exact ⟨z, List.mem_of_getElem? (i := j) (by rw [List.getElem?_set_ne (fun e => q e.symm), List.getElem?_eq_getElem hj, ej]), e⟩
def setA (k : ByteArray) (t : Int) (L : List Al) : List Al := insA (k, t) (remA k L)
/-- What may not be set. -/
def bad (k : ByteArray) (t : Int) : Prop := k.size = 0 ∨ 64 < k.size ∨ t < 0 ∨ 1099511627776 < t
instance (k : ByteArray) (t : Int) : Decidable (bad k t) := inferInstanceAs (Decidable (_ ∨ _ ∨ _ ∨ _))
theorem size0 {k : ByteArray} : k.size = 0 ↔ k = ⟨#[]⟩ := by
  constructor
  · intro h; cases k with | mk x => congr 1; exact Array.eq_empty_of_size_eq_zero h
  · intro h; subst h; rfl
theorem setA_pair {k : ByteArray} {t : Int} {L : List Al} (h : L.Pairwise lt) : (setA k t L).Pairwise lt := insA_pair (remA_pair h) fun y hy => (mem_remA.1 hy).2
theorem setA_mem {k : ByteArray} {t : Int} {L : List Al} {y : Al} (h : y ∈ setA k t L) : y = (k, t) ∨ y ∈ L := by
  rcases List.mem_cons.1 ((insA_perm _ _).mem_iff.1 h) with h | h
  · exact .inl h
  · exact .inr (mem_remA.1 h).1
theorem set_run (f : Free3 orc) {p : Nat} {F : List Nat} {L : List Al} (h : HAt σ p F L) (k : ByteArray) (t : Int) (hn : L.length + 1 ≤ n) (hN : L.length + 1 ≤ 1048576)
    (hQ : ∀ σ' F', HAt σ' p F' (if bad k t then L else setA k t L) → (∀ b ∈ F', b ∈ F ∨ σ.next ≤ b) → Same σ σ' F → Q (.int .i64 (if bad k t then 1 else 0), σ')) :
    W (acall Try.prog gs orc (n + 10) 28 [pt p, .string k, .int .i64 t] σ) Q := by
  have d1 : (k = ⟨#[]⟩) = (k.size = 0) := propext size0.symm
  by_cases hb : bad k t
  · have := hQ σ F (by rw [if_pos hb]; exact h) (fun b hb => .inl hb) (.refl _ _)
    rw [if_pos hb] at this
    rw [W_start (m := 60) (keep := []) Try.func28 rfl (by kernel_rfl) (by kernel_rfl) (by first | rfl | assumption | exact f.h28) (by rfl)]
    by_cases c1 : k.size = 0
    · simp (maxSteps := 2000000) only [B0, B1, B2, B3, B4, B5, B6, B7, Gd, extV, Nat.reduceLT, Nat.reduceEqDiff, Nat.reduceBEq, Nat.reduceAdd, Nat.reduceSub, Nat.reduceMul, ↓reduceIte, reduceCtorEq, if_true, if_false, ite_true, ite_false, Int.reduceLT, Int.reduceLE, ptr, callV_func Try.enters_99, Try.len_9, Try.fa_58_1, Try.ld_56, Try.mi_175, Try.mi_32, callV_func Try.enters_105, Try.fa_58_0, Try.ld_27, Try.ia_27, Try.fa_32_1, Try.st_2, callV_func Try.enters_106, callV_func Try.enters_99,  none_h f.toFree h,  d1,  c1,  Try.len_9, rs_tmp (show Try.f28.results = #[.tmp 6] from rfl)]
      exact this
    · by_cases c2 : 64 < (k.size : Int)
      · simp (maxSteps := 2000000) only [B0, B1, B2, B3, B4, B5, B6, B7, Gd, extV, Nat.reduceLT, Nat.reduceEqDiff, Nat.reduceBEq, Nat.reduceAdd, Nat.reduceSub, Nat.reduceMul, ↓reduceIte, reduceCtorEq, if_true, if_false, ite_true, ite_false, Int.reduceLT, Int.reduceLE, ptr, callV_func Try.enters_99, Try.len_9, Try.fa_58_1, Try.ld_56, Try.mi_175, Try.mi_32, callV_func Try.enters_105, Try.fa_58_0, Try.ld_27, Try.ia_27, Try.fa_32_1, Try.st_2, callV_func Try.enters_106, callV_func Try.enters_99,  none_h f.toFree h,  d1,  c1,  c2,  Try.len_9, rs_tmp (show Try.f28.results = #[.tmp 6] from rfl)]
        exact this
      · by_cases c3 : t < 0
        · simp (maxSteps := 2000000) only [B0, B1, B2, B3, B4, B5, B6, B7, Gd, extV, Nat.reduceLT, Nat.reduceEqDiff, Nat.reduceBEq, Nat.reduceAdd, Nat.reduceSub, Nat.reduceMul, ↓reduceIte, reduceCtorEq, if_true, if_false, ite_true, ite_false, Int.reduceLT, Int.reduceLE, ptr, callV_func Try.enters_99, Try.len_9, Try.fa_58_1, Try.ld_56, Try.mi_175, Try.mi_32, callV_func Try.enters_105, Try.fa_58_0, Try.ld_27, Try.ia_27, Try.fa_32_1, Try.st_2, callV_func Try.enters_106, callV_func Try.enters_99,  none_h f.toFree h,  d1,  c1,  c2,  c3,  Try.len_9, rs_tmp (show Try.f28.results = #[.tmp 6] from rfl)]
          exact this
        · have c4 : 1099511627776 < t := by unfold bad at hb; omega
          simp (maxSteps := 2000000) only [B0, B1, B2, B3, B4, B5, B6, B7, Gd, extV, Nat.reduceLT, Nat.reduceEqDiff, Nat.reduceBEq, Nat.reduceAdd, Nat.reduceSub, Nat.reduceMul, ↓reduceIte, reduceCtorEq, if_true, if_false, ite_true, ite_false, Int.reduceLT, Int.reduceLE, ptr, callV_func Try.enters_99, Try.len_9, Try.fa_58_1, Try.ld_56, Try.mi_175, Try.mi_32, callV_func Try.enters_105, Try.fa_58_0, Try.ld_27, Try.ia_27, Try.fa_32_1, Try.st_2, callV_func Try.enters_106, callV_func Try.enters_99,  none_h f.toFree h,  d1,  c1,  c2,  c3,  c4,  Try.len_9, rs_tmp (show Try.f28.results = #[.tmp 6] from rfl)]
          exact this
  · have hb' := hb
    unfold bad at hb
    have c1 : ¬ k.size = 0 := by omega
    have c2 : ¬ 64 < (k.size : Int) := by omega
    have c3 : ¬ t < 0 := by omega
    have c4 : ¬ 1099511627776 < t := by omega
    simp only [if_neg hb'] at hQ
    obtain ⟨A, h1, hh, hp⟩ := h.ex
    obtain ⟨sv, m, M, h2, h3, rfl⟩ := h1.ex
    have hlk := lookup_spec Try.underlying56 Try.underlying9 Try.zero_3 h2.map k true
    have hll := hp.length_eq
    have vals : ∀ y ∈ setA k t L, 0 < y.1.size ∧ 0 ≤ y.2 ∧ y.2 ≤ 1099511627776 := fun y hy => by
      rcases setA_mem hy with e | hy
      · subst e; exact ⟨by show 0 < k.size; omega, by show 0 ≤ t; omega, by show t ≤ 1099511627776; omega⟩
      · exact h.vals y hy
    rcases seek h2 h3 hp k with ⟨e0, e1, e2⟩ | ⟨i, x, hi, hx, e1, e2⟩
    · rw [e1] at hlk
      simp only [if_true, Option.getD_none, Option.isSome_none] at hlk
      rw [W_start (m := 60) (keep := []) Try.func28 rfl (by kernel_rfl) (by kernel_rfl) (by first | rfl | assumption | exact f.h28) (by rfl)]
      simp (maxSteps := 2000000) only [B0, B1, B2, B3, B4, B5, B6, B7, Gd, extV, Nat.reduceLT, Nat.reduceEqDiff, Nat.reduceBEq, Nat.reduceAdd, Nat.reduceSub, Nat.reduceMul, ↓reduceIte, reduceCtorEq, if_true, if_false, ite_true, ite_false, Int.reduceLT, Int.reduceLE, ptr, callV_func Try.enters_99, Try.len_9, Try.fa_58_1, Try.ld_56, Try.mi_175, Try.mi_32, callV_func Try.enters_105, Try.fa_58_0, Try.ld_27, Try.ia_27, Try.fa_32_1, Try.st_2, callV_func Try.enters_106, callV_func Try.enters_99,  none_h f.toFree h,  d1,  c1,  c2,  c3,  c4,  Try.len_9,  Try.fa_58_1,  Try.ld_56,  h2.ld1,  hlk,  b175,  b32,  Try.mi_175,  Try.mi_32,  callV_func Try.enters_105, rs_tmp (show Try.f28.results = #[.tmp 6] from rfl)]
      refine hpush_run f.toFree2 (x := (k, t)) h1 hh (by omega) (by omega) (by show k.size ≤ 64; omega) (fun y hy => e0 y (hp.mem_iff.1 hy)) fun σ1 F1 A1 g1 gp gh gF gS => ?_
      simp (maxSteps := 2000000) only [B0, B1, B2, B3, B4, B5, B6, B7, Gd, extV, Nat.reduceLT, Nat.reduceEqDiff, Nat.reduceBEq, Nat.reduceAdd, Nat.reduceSub, Nat.reduceMul, ↓reduceIte, reduceCtorEq, if_true, if_false, ite_true, ite_false, Int.reduceLT, Int.reduceLE, ptr, callV_func Try.enters_99, Try.len_9, Try.fa_58_1, Try.ld_56, Try.mi_175, Try.mi_32, callV_func Try.enters_105, Try.fa_58_0, Try.ld_27, Try.ia_27, Try.fa_32_1, Try.st_2, callV_func Try.enters_106, rs_tmp (show Try.f28.results = #[.tmp 6] from rfl)]
      refine hQ σ1 F1 (HAt.of g1 gh ?_ (setA_pair h.srt) vals) gF gS
      unfold setA
      rw [remA_not e0]
      exact gp.trans ((List.perm_append_singleton _ _).trans ((hp.cons _).trans (insA_perm _ _).symm))
    · rw [e1] at hlk
      simp only [if_true, Option.getD_some, Option.isSome_some] at hlk
      obtain ⟨b, o, cap, g, rfl, hcap, hbl, hr⟩ := h2.row.at_ hi
      obtain ⟨σ1, t1, g1, gS⟩ := h2.putAt hi t
      have li : i < A.length := (List.getElem?_eq_some_iff.1 hi).1
      rw [W_start (m := 60) (keep := []) Try.func28 rfl (by kernel_rfl) (by kernel_rfl) (by first | rfl | assumption | exact f.h28) (by rfl)]
      simp (maxSteps := 2000000) only [B0, B1, B2, B3, B4, B5, B6, B7, Gd, extV, Nat.reduceLT, Nat.reduceEqDiff, Nat.reduceBEq, Nat.reduceAdd, Nat.reduceSub, Nat.reduceMul, ↓reduceIte, reduceCtorEq, if_true, if_false, ite_true, ite_false, Int.reduceLT, Int.reduceLE, ptr, callV_func Try.enters_99, Try.len_9, Try.fa_58_1, Try.ld_56, Try.mi_175, Try.mi_32, callV_func Try.enters_105, Try.fa_58_0, Try.ld_27, Try.ia_27, Try.fa_32_1, Try.st_2, callV_func Try.enters_106, Value.cells,  callV_func Try.enters_99,  none_h f.toFree h,  d1,  c1,  c2,  c3,  c4,  Try.len_9,  Try.fa_58_0,  Try.fa_58_1,  Try.fa_32_1,  Try.ld_56,  Try.ld_27,  Try.ia_27,  Try.st_2,  List.size_toArray,  li,  h2.ld0,  h2.ld1,  hlk,  t1,  b175,  Try.mi_175,  callV_func Try.enters_106, rs_tmp (show Try.f28.results = #[.tmp 6] from rfl)]
      have g2 : AAt σ1 p (p :: m :: blks (.slice (some ⟨b, o, none⟩) A.length cap)) (A.set i (x.1, t)) := ⟨⟨_, m, M, g1, h3.setAt hi t, rfl⟩, fun z hz => by
        rcases List.mem_or_eq_of_mem_set hz with hz | hz
        · exact h1.keys z hz
        · subst hz; exact h1.keys x (List.mem_of_getElem? hi)⟩
      refine hfix_run f.toFree2 g2 (i := i) (by rw [List.length_set]; exact li) (by rw [List.length_set]; exact exc_of ordOk hh (Nat.le_refl _) li fun j hj ji => by unfold fA; rw [List.getElem?_set_ne (fun e => ji e.symm)]) (by rw [List.length_set]; omega) (by rw [List.length_set]; omega) fun σ2 A2 k2 kp kh kS => ?_
      simp (maxSteps := 2000000) only [B0, B1, B2, B3, B4, B5, B6, B7, Gd, extV, Nat.reduceLT, Nat.reduceEqDiff, Nat.reduceBEq, Nat.reduceAdd, Nat.reduceSub, Nat.reduceMul, ↓reduceIte, reduceCtorEq, if_true, if_false, ite_true, ite_false, Int.reduceLT, Int.reduceLE, ptr, callV_func Try.enters_99, Try.len_9, Try.fa_58_1, Try.ld_56, Try.mi_175, Try.mi_32, callV_func Try.enters_105, Try.fa_58_0, Try.ld_27, Try.ia_27, Try.fa_32_1, Try.st_2, callV_func Try.enters_106, rs_tmp (show Try.f28.results = #[.tmp 6] from rfl)]
      refine hQ σ2 _ (HAt.of k2 kh ?_ (setA_pair h.srt) vals) (fun b hb => .inl hb) ((gS.mono fun c hc => by simp [blks] at hc ⊢; exact .inr (.inr hc)).trans kS fun b hb => .inl hb)
      have q1 := (remA_perm (k := k) ((erase_perm A i hi).trans hp))
      rw [← hx, remA_cons_self (h1.kd.perm (erase_perm A i hi).symm)] at q1
      unfold setA
      rw [← hx]
      exact (kp.trans (set_erase _ A i li)).trans ((q1.cons _).trans (insA_perm _ _).symm)
end Go.Proofs.Ytongccpmdndcgaa.Alm
end
/- Alarms: Due. -/
section
set_option linter.all false
namespace Go.Proofs.Ytongccpmdndcgaa.Alm
open Go Go.AE Go.Hp
set_option maxRecDepth 100000
variable {gs : List Nat} {orc : Orc} {n : Nat} {σ : AHeap} {Q : Value × AHeap → Prop}

theorem hpop_h (f : Free2 orc) {p : Nat} {F : List Nat} {x : Al} {l : List Al} (h : HAt σ p F (x :: l)) (hn : l.length + 1 ≤ n) (hN : l.length + 1 ≤ 1048576)
    (hQ : ∀ σ', HAt σ' p F l → Same σ σ' F → Q (.iface 32 (alV x), σ')) : W (acall Try.prog gs orc (n + 9) 103 [rowsV p] σ) Q := by
  obtain ⟨A, h1, hh, hp⟩ := h.ex
  have hl := hp.length_eq
  simp at hl
  refine hpop_run f h1 (k := l.length) (by omega) (head_min hp h.srt hh) hh (by omega) (by omega) fun σ1 A1 g1 gp gh gS => hQ σ1 (HAt.of g1 gh ((List.perm_cons x).1 (gp.trans hp)) (List.pairwise_cons.1 h.srt).2 fun y hy => h.vals y (by simp [hy])) gS
theorem due_run (f : Free3 orc) {p : Nat} {F : List Nat} {L : List Al} (h : HAt σ p F L) (now : Int) (hn : L.length + 1 ≤ n) (hN : L.length + 1 ≤ 1048576)
    (hQ : ∀ σ' v, HAt σ' p F (left now L) → SlAt σ' 32 2 encA v (due now L) → (∀ b ∈ blks v, σ.next ≤ b) → Same σ σ' F → Q (v, σ')) :
    W (acall Try.prog gs orc (n + 10) 24 [pt p, .int .i64 now] σ) Q := by
  rw [W_start (m := 35) (keep := []) Try.func24 rfl (by kernel_rfl) (by kernel_rfl) (by first | rfl | assumption | exact f.h24) (by rfl)]
  simp (maxSteps := 2000000) only [B0, B1, B2, B3, B4, B5, B6, B7, Gd, extV, Nat.reduceLT, Nat.reduceEqDiff, Nat.reduceBEq, Nat.reduceAdd, Nat.reduceSub, Nat.reduceMul, ↓reduceIte, reduceCtorEq, if_true, if_false, ite_true, ite_false, Int.reduceLT, Int.reduceLE, ptr, callV_func Try.enters_23, allocV_zero Try.zero_32, Try.st_32, Try.fa_32_1, Try.ld_2, Try.mi_175, callV_func Try.enters_103, Try.ld_32, callV_func Try.enters_23, rs_tmp (show Try.f24.results = #[.tmp 4] from rfl)]
  refine next_run f h fun σ1 c hS1 hc0 hc1 => ?_
  obtain ⟨σ2, e2, hS2, hv2, hn2⟩ : ∃ σ2, (newCells σ1 32 [.string ⟨#[]⟩, .int .i64 0]).2 = σ2 ∧ Same σ1 σ2 [] ∧ VarAt σ2 σ1.next [.string ⟨#[]⟩, .int .i64 0] ∧ σ2.next = σ1.next + 1 := ⟨_, rfl, .newCells _ _ _ _, .new _ _ _ _, rfl⟩
  obtain ⟨σ3, t3, hv3, hS3, hn3⟩ := hv2.store (vs' := [.string (L.headD (⟨#[]⟩, 0)).1, .int .i64 (L.headD (⟨#[]⟩, 0)).2]) rfl (by intro v hv; simp at hv; rcases hv with rfl | rfl <;> rfl)
  have hs1 := hS1.next
  have h3 : HAt σ3 p F L := ((h.same hS1 nofun).same hS2 nofun).same hS3 (fun b hb q => by have := h.low b hb; simp at q; omega)
  have hS : Same σ σ3 F := (((hS1.app hS2).app hS3).old fun b hb => by simp at hb; exact .inr (by omega))
  simp (maxSteps := 2000000) only [B0, B1, B2, B3, B4, B5, B6, B7, Gd, extV, Nat.reduceLT, Nat.reduceEqDiff, Nat.reduceBEq, Nat.reduceAdd, Nat.reduceSub, Nat.reduceMul, ↓reduceIte, reduceCtorEq, if_true, if_false, ite_true, ite_false, Int.reduceLT, Int.reduceLE, ptr, callV_func Try.enters_23, allocV_zero Try.zero_32, Try.st_32, Try.fa_32_1, Try.ld_2, Try.mi_175, callV_func Try.enters_103, Try.ld_32, Value.cells,  alV,  allocV_zero Try.zero_32,  e2,  Try.st_32,  List.size_toArray,  t3, rs_tmp (show Try.f24.results = #[.tmp 4] from rfl)]
  refine W_inv (fun k fr σ' => ∃ (t : Tr Value) (L1 D : List Al) (v : Value) (c : Bool) (b6 : Nat), fr = ⟨35, t⟩ ∧ t.get 0 = some (pt p) ∧ t.get 1 = some (.int .i64 now) ∧ t.get 5 = some v ∧ t.get 6 = some (pt b6) ∧ t.get 7 = some (.bool c) ∧ k = L1.length ∧ D ++ L1 = L ∧ (∀ x ∈ D, x.2 ≤ now) ∧ HAt σ' p F L1 ∧ SlAt σ' 32 2 encA v D ∧ (∀ b ∈ blks v, σ.next ≤ b) ∧ σ.next ≤ b6 ∧ b6 ∉ blks v ∧ VarAt σ' b6 [.string (L1.headD (⟨#[]⟩, 0)).1, .int .i64 (L1.headD (⟨#[]⟩, 0)).2] ∧ (L1 = [] → c = false) ∧ (∀ x l, L1 = x :: l → c = true) ∧ Same σ σ' F) L.length (by omega)
    ⟨_, L, [], .slice none 0 0, c, σ1.next, rfl, by simp [get_put, get_args], by simp [get_put, get_args], by simp [get_put, get_args], by simp [get_put], by simp [get_put], rfl, rfl, nofun, h3, .inl ⟨rfl, rfl⟩, nofun, hs1, nofun, hv3, hc0, hc1, hS⟩ ?_
  rintro k fr σ4 ⟨t, L1, D, v, c, b6, rfl, t0, t1, t5, t6, t7, rfl, hDL, hD, h4, hv, hvb, hb6, hb6v, hx, hc0, hc1, hS4⟩
  have hlen : D.length + L1.length = L.length := by rw [← hDL]; simp
  cases L1 with
  | nil =>
    have c0 := hc0 rfl
    subst c0
    simp (maxSteps := 2000000) only [B0, B1, B2, B3, B4, B5, B6, B7, Gd, extV, Nat.reduceLT, Nat.reduceEqDiff, Nat.reduceBEq, Nat.reduceAdd, Nat.reduceSub, Nat.reduceMul, ↓reduceIte, reduceCtorEq, if_true, if_false, ite_true, ite_false, Int.reduceLT, Int.reduceLE, ptr, callV_func Try.enters_23, allocV_zero Try.zero_32, Try.st_32, Try.fa_32_1, Try.ld_2, Try.mi_175, callV_func Try.enters_103, Try.ld_32, t0,  t1,  t5,  t6,  t7, rs_tmp (show Try.f24.results = #[.tmp 4] from rfl)]
    simp only [List.append_nil] at hDL
    subst hDL
    have ed : due now D = D := by have := List.takeWhile_append_of_pos (p := fun x : Al => decide (x.2 ≤ now)) (l₁ := D) (l₂ := []) (fun x hx => by simpa using hD x hx); simpa [due] using this
    have el : left now D = [] := by
      have := List.takeWhile_append_dropWhile (p := fun x : Al => decide (x.2 ≤ now)) (l := D)
      unfold due at ed
      rw [ed] at this
      unfold left
      simpa using this
    exact hQ σ4 v (by rw [el]; exact h4) (by rw [ed]; exact hv) hvb hS4
  | cons x l =>
    have c0 := hc1 x l rfl
    subst c0
    simp only [List.headD_cons] at hx
    have hx1 := hx.ld (o := 1) rfl
    have hxc : ldCells σ4 b6 0 2 = some [.string x.1, .int .i64 x.2] := hx.ldCells
    by_cases hle : x.2 ≤ now
    · simp at hlen
      simp (maxSteps := 2000000) only [B0, B1, B2, B3, B4, B5, B6, B7, Gd, extV, Nat.reduceLT, Nat.reduceEqDiff, Nat.reduceBEq, Nat.reduceAdd, Nat.reduceSub, Nat.reduceMul, ↓reduceIte, reduceCtorEq, if_true, if_false, ite_true, ite_false, Int.reduceLT, Int.reduceLE, ptr, callV_func Try.enters_23, allocV_zero Try.zero_32, Try.st_32, Try.fa_32_1, Try.ld_2, Try.mi_175, callV_func Try.enters_103, Try.ld_32, t0,  t1,  t5,  t6,  t7,  Try.fa_32_1,  Try.ld_2,  hx1,  hle,  b175,  Try.mi_175,  callV_func Try.enters_103, rs_tmp (show Try.f24.results = #[.tmp 4] from rfl)]
      refine hpop_h f.toFree2 h4 (by omega) (by omega) fun σ5 h5 hS5 => ?_
      have b6F : b6 ∉ F := fun q => by have := h.low b6 q; omega
      have vF : ∀ b ∈ blks v, b ∉ F := fun b hb q => by have := h.low b q; have := hvb b hb; omega
      have hx5 := hx.same hS5 b6F
      have hv5 := hv.same hS5 vF
      have hx5c : ldCells σ5 b6 0 2 = some [.string x.1, .int .i64 x.2] := hx5.ldCells
      have hn5 := hS5.next
      have hn4 := hS4.next
      have b6l := hx5.1
      obtain ⟨σ6, e6, hS6, hy6, hn6⟩ : ∃ σ6, (newCells σ5 32 [.string x.1, .int .i64 x.2]).2 = σ6 ∧ Same σ5 σ6 [] ∧ VarAt σ6 σ5.next [.string x.1, .int .i64 x.2] ∧ σ6.next = σ5.next + 1 := ⟨_, rfl, .newCells _ _ _ _, .new _ _ _ _, rfl⟩
      have hv6 := hv5.same hS6 nofun
      have hx6 := hx5.same hS6 nofun
      have h6 := h5.same hS6 nofun
      obtain ⟨av, cv, rfl, _⟩ := hv6.len
      obtain ⟨v7, σ7, t7', hv7, hS7, hb7⟩ := append_spec encOk hv6 [x] (by simp; omega)
      have t7'' : appendCells 32 2 av D.length cv 1 [.string x.1, .int .i64 x.2] σ6 = some (v7, σ7) := t7'
      have hx7 := hx6.same hS7 hb6v
      have hx7c : ldCells σ7 b6 0 2 = some [.string x.1, .int .i64 x.2] := hx7.ldCells
      have h7 := h6.same hS7 (fun b hb q => vF b q hb)
      have hn7 := hS7.next
      have bs : ∀ {τ : AHeap}, buildSliceV Try.prog 27 1 [(0, .agg #[.string x.1, .int .i64 x.2])] τ = some (.slice (some ⟨τ.next, 0, none⟩) 1 1, (newCells τ 32 [.string x.1, .int .i64 x.2]).2) := bs_one Try.underlying27 Try.elem_32 rfl rfl (by decide)
      have hf : firstCells' 2 1 σ6 (.slice (some ⟨σ5.next, 0, none⟩) 1 1) = some [.string x.1, .int .i64 x.2] := hy6.ldCells
      obtain ⟨σ8, e8, hS8, hv8, hn8⟩ : ∃ σ8, (newCells σ7 32 [.string ⟨#[]⟩, .int .i64 0]).2 = σ8 ∧ Same σ7 σ8 [] ∧ VarAt σ8 σ7.next [.string ⟨#[]⟩, .int .i64 0] ∧ σ8.next = σ7.next + 1 := ⟨_, rfl, .newCells _ _ _ _, .new _ _ _ _, rfl⟩
      obtain ⟨σ9, t9, hv9, hS9, hn9⟩ := hv8.store (vs' := [.string x.1, .int .i64 x.2]) rfl (by intro v hv; simp at hv; rcases hv with rfl | rfl <;> rfl)
      have fresh9 : ∀ b ∈ F, b ∉ [σ7.next] := fun b hb q => by have := h.low b hb; simp at q; omega
      have h9 := (h7.same hS8 nofun).same hS9 fresh9
      have v7l := hv7.lt
      have hv9' := (hv7.same hS8 nofun).same hS9 (fun b hb q => by have := v7l b hb; simp at q; omega)
      simp (maxSteps := 2000000) only [B0, B1, B2, B3, B4, B5, B6, B7, Gd, extV, Nat.reduceLT, Nat.reduceEqDiff, Nat.reduceBEq, Nat.reduceAdd, Nat.reduceSub, Nat.reduceMul, ↓reduceIte, reduceCtorEq, if_true, if_false, ite_true, ite_false, Int.reduceLT, Int.reduceLE, ptr, callV_func Try.enters_23, allocV_zero Try.zero_32, Try.st_32, Try.fa_32_1, Try.ld_2, Try.mi_175, callV_func Try.enters_103, Try.ld_32, bs,  e6,  hx5c,  append_eq Try.underlying27 Try.underlying27 Try.elem_32 hf,  t7'',  hx7c,  Try.ld_32,  Try.st_32,  Value.cells,  List.size_toArray,  allocV_zero Try.zero_32,  e8,  t9,  t0,  t1,  t5,  t6,  callV_func Try.enters_23, rs_tmp (show Try.f24.results = #[.tmp 4] from rfl)]
      refine next_run f h9 fun σ10 c' hS10 hc0' hc1' => ?_
      obtain ⟨σ11, t11, hv11, hS11, hn11⟩ := (hv9.same hS10 nofun).store (vs' := [.string (l.headD (⟨#[]⟩, 0)).1, .int .i64 (l.headD (⟨#[]⟩, 0)).2]) rfl (by intro v hv; simp at hv; rcases hv with rfl | rfl <;> rfl)
      simp (maxSteps := 2000000) only [B0, B1, B2, B3, B4, B5, B6, B7, Gd, extV, Nat.reduceLT, Nat.reduceEqDiff, Nat.reduceBEq, Nat.reduceAdd, Nat.reduceSub, Nat.reduceMul, ↓reduceIte, reduceCtorEq, if_true, if_false, ite_true, ite_false, Int.reduceLT, Int.reduceLE, ptr, callV_func Try.enters_23, allocV_zero Try.zero_32, Try.st_32, Try.fa_32_1, Try.ld_2, Try.mi_175, callV_func Try.enters_103, Try.ld_32, alV,  Try.st_32,  Value.cells,  List.size_toArray,  t11,  t0,  t1,  t5,  t6,  KInv_normal, rs_tmp (show Try.f24.results = #[.tmp 4] from rfl)]
      refine ⟨l.length, by simp, _, l, D ++ [x], v7, c', σ7.next, rfl, by simp [get_put, t0], by simp [get_put, t1], by simp [get_put], by simp [get_put], by simp [get_put], rfl, by rw [← hDL]; simp, ?_, ((h9.same hS10 nofun).same hS11 fresh9), ((hv9'.same hS10 nofun).same hS11 (fun b hb q => by have := v7l b hb; simp at q; omega)), ?_, by omega, fun q => by have := v7l _ q; omega, hv11, hc0', hc1', ?_⟩
      · intro y hy
        rcases List.mem_append.1 hy with hy | hy
        · exact hD y hy
        · simp at hy; subst hy; exact hle
      · intro b hb
        rcases hb7 b hb with q | q
        · exact hvb b q
        · omega
      · refine (((((((hS4.app hS5).app hS6).app hS7).app hS8).app hS9).app hS10).app hS11).old fun b hb => ?_
        simp at hb
        rcases hb with hb | hb | hb
        · exact .inl hb
        · exact .inr (hvb b hb)
        · exact .inr (by omega)
    · simp (maxSteps := 2000000) only [B0, B1, B2, B3, B4, B5, B6, B7, Gd, extV, Nat.reduceLT, Nat.reduceEqDiff, Nat.reduceBEq, Nat.reduceAdd, Nat.reduceSub, Nat.reduceMul, ↓reduceIte, reduceCtorEq, if_true, if_false, ite_true, ite_false, Int.reduceLT, Int.reduceLE, ptr, callV_func Try.enters_23, allocV_zero Try.zero_32, Try.st_32, Try.fa_32_1, Try.ld_2, Try.mi_175, callV_func Try.enters_103, Try.ld_32, t0,  t1,  t5,  t6,  t7,  Try.fa_32_1,  Try.ld_2,  hx1,  hle, rs_tmp (show Try.f24.results = #[.tmp 4] from rfl)]
      have ed : due now L = D := by
        unfold due; rw [← hDL, List.takeWhile_append_of_pos (fun x hx => by simpa using hD x hx), List.takeWhile_cons]; simp [hle]
      have el : left now L = x :: l := by
        unfold left; rw [← hDL, List.dropWhile_append_of_pos (fun x hx => by simpa using hD x hx), List.dropWhile_cons]; simp [hle]
      exact hQ σ4 v (by rw [el]; exact h4) (by rw [ed]; exact hv) hvb hS4
end Go.Proofs.Ytongccpmdndcgaa.Alm
end
/- Alarms: slices.SortFunc by their order, told by the library's contract. -/
section
set_option linter.all false
namespace Go.Proofs.Ytongccpmdndcgaa.Alm
open Go Go.AE Go.Hp Go.Sort Go.Proofs
set_option maxRecDepth 100000

def decA : List Value → Option (List Al)
  | [] => some []
  | .string s :: .int .i64 t :: r => match decA r with
    | some l => some ((s, t) :: l)
    | none => none
  | _ => none
theorem decA_spec : ∀ (cs : List Value) (L : List Al), decA cs = some L → cs = L.flatMap encA
  | [], L, h => by simp [decA] at h; subst h; rfl
  | .string s :: .int .i64 t :: r, L, h => by
    rw [decA] at h
    split at h
    · rename_i l hl
      cases h
      rw [decA_spec r l hl]; rfl
    · cases h
  | [.string _], _, h => by simp [decA] at h
  | .string _ :: .bool _ :: _, _, h => by simp [decA] at h
  | .string _ :: .float .. :: _, _, h => by simp [decA] at h
  | .string _ :: .complex .. :: _, _, h => by simp [decA] at h
  | .string _ :: .string _ :: _, _, h => by simp [decA] at h
  | .string _ :: .pointer _ :: _, _, h => by simp [decA] at h
  | .string _ :: .slice .. :: _, _, h => by simp [decA] at h
  | .string _ :: .map _ :: _, _, h => by simp [decA] at h
  | .string _ :: .chan _ :: _, _, h => by simp [decA] at h
  | .string _ :: .func .. :: _, _, h => by simp [decA] at h
  | .string _ :: .nilFunc :: _, _, h => by simp [decA] at h
  | .string _ :: .iface .. :: _, _, h => by simp [decA] at h
  | .string _ :: .nilIface :: _, _, h => by simp [decA] at h
  | .string _ :: .agg _ :: _, _, h => by simp [decA] at h
  | .string _ :: .tuple _ :: _, _, h => by simp [decA] at h
  | .string _ :: .int .i8 _ :: _, _, h => by simp [decA] at h
  | .string _ :: .int .i16 _ :: _, _, h => by simp [decA] at h
  | .string _ :: .int .i32 _ :: _, _, h => by simp [decA] at h
  | .string _ :: .int .u8 _ :: _, _, h => by simp [decA] at h
  | .string _ :: .int .u16 _ :: _, _, h => by simp [decA] at h
  | .string _ :: .int .u32 _ :: _, _, h => by simp [decA] at h
  | .string _ :: .int .u64 _ :: _, _, h => by simp [decA] at h
  | .bool _ :: _, _, h => by simp [decA] at h
  | .int .. :: _, _, h => by simp [decA] at h
  | .float .. :: _, _, h => by simp [decA] at h
  | .complex .. :: _, _, h => by simp [decA] at h
  | .pointer _ :: _, _, h => by simp [decA] at h
  | .slice .. :: _, _, h => by simp [decA] at h
  | .map _ :: _, _, h => by simp [decA] at h
  | .chan _ :: _, _, h => by simp [decA] at h
  | .func .. :: _, _, h => by simp [decA] at h
  | .nilFunc :: _, _, h => by simp [decA] at h
  | .iface .. :: _, _, h => by simp [decA] at h
  | .nilIface :: _, _, h => by simp [decA] at h
  | .agg _ :: _, _, h => by simp [decA] at h
  | .tuple _ :: _, _, h => by simp [decA] at h
/-- In order. -/
def srtA (L : List Al) : List Al := L.mergeSort fun x y => !(ltOf ordI) y x
theorem order_exact (x y : Al) (W : World) : Calls Try.prog 102 #[.agg (encA x).toArray, .agg (encA y).toArray] W fun e w' => e = .returned (.int .i64 (ordI x y)) ∧ ∃ q os', w' = Sort.grow (W.drewN q) os' := by
  obtain ⟨⟨v, σ'⟩, h, hv⟩ := order_run (gs := []) (orc := fun _ => none) (n := 0) (σ := nought) (x := x) (y := y) rfl rfl rfl rfl rfl rfl (Q := fun r => r.1 = .int .i64 (ordI x y)) fun _ _ => rfl
  simp only at hv
  subst hv
  exact plain_exact (by kernel_rfl) h (by intro z hz; simp at hz; rcases hz with rfl | rfl <;> rfl) rfl W
theorem ltOf_iff {x y : Al} : ltOf ordI x y = true ↔ lt x y := by unfold ltOf lt; simp
theorem ltOf_not {x y : Al} : ltOf ordI x y = false ↔ ¬ lt x y := by rw [← ltOf_iff]; simp
instance : Inhabited Al := ⟨(⟨#[]⟩, 0)⟩
theorem sort_told {D : Prop} {gs : List Nat} : Go.AE.Told D Try.prog gs 101 (sortFO 2 decA encA srtA 102) :=
  Go.AE.Told.sortFunc encOk (fun x v hv => by simp [encA] at hv; rcases hv with rfl | rfl <;> rfl) decA_spec (fun L => by simp [srtA])
    (fun p cap w => AnyF.slices_SortFunc_none Try.sortf101 p cap _ w)
    (fun blk off cap d w hH hb hs => AnyQ.slices_SortFunc_total Try.sortf101 2 Try.isAgg32 Try.sizeOf32 encA (fun _ => rfl) (fun x v hv => by simp [encA] at hv; rcases hv with rfl | rfl <;> rfl) ordI
      ⟨fun x => ltOf_not.2 (lt_irr x), fun x y z h1 h2 => ltOf_iff.2 (lt_trans (ltOf_iff.1 h1) (ltOf_iff.1 h2)), fun x y z h1 h2 => ltOf_not.2 (ordOk.tr _ _ _ (ltOf_not.1 h2) (ltOf_not.1 h1))⟩
      102 #[] blk off cap d w (enters_of Try.func102 (by kernel_rfl) rfl) (fun _ _ _ _ x y => order_exact x y _) hH hb hs (fun x y h1 h2 => lt_tri (ltOf_not.1 h1) (ltOf_not.1 h2)))
end Go.Proofs.Ytongccpmdndcgaa.Alm
end
/- Alarms: All and Copy. -/
section
set_option linter.all false
namespace Go.Proofs.Ytongccpmdndcgaa.Alm
open Go Go.AE Go.Hp Go.Sort Go.Proofs
set_option maxRecDepth 100000
variable {gs : List Nat} {orc : Orc} {n : Nat} {σ : AHeap} {Q : Value × AHeap → Prop}

structure Free4 (orc : Orc) : Prop extends Free3 orc where
  o101 : orc 101 = some (sortFO 2 decA encA srtA 102)
  o104 : orc 104 = some cloneO
end Go.Proofs.Ytongccpmdndcgaa.Alm
end
