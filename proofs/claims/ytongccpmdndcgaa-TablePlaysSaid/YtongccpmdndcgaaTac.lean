/- Texts of this proof, gathered. What each part says stands at its head; conditions: none but those that its theorems name. -/
import Derived.Test.YtongccpmdndcgaaTab
import Derived.Test.YtongccpmdndcgaaAlm
import Derived.Test.YtongccpmdndcgaaTol
import Derived.Test.YtongccpmdndcgaaE4
import Derived.OpenShut
/- Tables: Sweep. -/
section
set_option linter.all false
namespace Go.Proofs.Ytongccpmdndcgaa.Tab
open Go Go.AE Go.Proofs.Ytongccpmdndcgaa.Alm Go.Sort Go.Proofs
set_option maxRecDepth 100000
set_option maxHeartbeats 1000000
attribute [local irreducible] Go.AE.Tr.put Go.AE.Tr.get
variable {gs : List Nat} {orc : Orc} {n : Nat} {σ : AHeap} {Q : Value × AHeap → Prop}
variable {p room : Nat} {F : List Nat} {T : List E} {ref : Bool}

def sweepT (T : List E) (gone : E → Bool) : List E := T.filter fun e => !e.2.2.2 && gone e
def keptT (T : List E) (gone : E → Bool) : List E := T.filter fun e => e.2.2.2 || !gone e
theorem kept_ks (h : KS T) (g : E → Bool) : KS (keptT T g) := h.sublist List.filter_sublist
/-- The keys of what goes. -/
def keysOf (D : List E) : List Al := D.map fun e => (e.1, e.2.2.1)
theorem less_keys (h : KS T) (g : E → Bool) : lessT T (keysOf (sweepT T g)) = keptT T g := by
  refine List.filter_congr fun e he => ?_
  cases hs : (!e.2.2.2 && g e) with
  | true =>
    have h1 : e ∈ sweepT T g := List.mem_filter.2 ⟨he, hs⟩
    have h2 : ((keysOf (sweepT T g)).any fun x => decide (x.1 = e.1)) = true := List.any_eq_true.2 ⟨(e.1, e.2.2.1), List.mem_map.2 ⟨e, h1, rfl⟩, by simp⟩
    rw [h2]
    simp only [Bool.and_eq_true, Bool.not_eq_true'] at hs
    simp [hs.1, hs.2]
  | false =>
    have h2 : ((keysOf (sweepT T g)).any fun x => decide (x.1 = e.1)) = false := by
      rw [List.any_eq_false]
      intro x hx
      obtain ⟨y, hy, rfl⟩ := List.mem_map.1 hx
      obtain ⟨hy1, hy2⟩ := List.mem_filter.1 hy
      simp only [decide_eq_true_eq]
      intro q
      have e1 := getE_mem h.nd hy1
      have e2 := getE_mem h.nd he
      rw [q, e2] at e1
      rw [← Option.some.inj e1, hs] at hy2
      cases hy2
    rw [h2]
    cases h3 : e.2.2.2 <;> cases h4 : g e <;> simp [h3, h4] at hs ⊢
theorem sweep_run (f : FreeU orc) (h : TAt σ p F T room ref) (hn : 1024 < n) {gv : Value} {gone : E → Bool}
    (hg : ∀ e ∈ T, ∀ (σ1 : AHeap) (Q' : Value × AHeap → Prop), Same σ σ1 F → (∀ σ2, Same σ1 σ2 [] → Q' (.bool (gone e), σ2)) → W (callV Try.prog (acall Try.prog gs orc (n + 12)) gv [enV e] σ1) Q')
    (hQ : ∀ σ' v, TAt σ' p F (keptT T gone) room ref → SlAt σ' 69 4 encE v (sweepT T gone) → (∀ b ∈ blks v, σ.next ≤ b) → Same σ σ' F → Q (v, σ')) :
    W (acall Try.prog gs orc (n + 13) 49 [pt p, gv] σ) Q := by
  have hlo := h.low
  have h0 := h
  have hal := h.al_len
  rw [W_start (m := 32) (keep := []) Try.func49 rfl (by kernel_rfl) (by kernel_rfl) (by first | rfl | assumption | exact f.h49) (by rfl)]
  simp (maxSteps := 2000000) only [B0, B1, B2, B3, B4, B5, B6, B7, Gd, extV, Nat.reduceLT, Nat.reduceEqDiff, Nat.reduceBEq, Nat.reduceAdd, Nat.reduceSub, Nat.reduceMul, ↓reduceIte, reduceCtorEq, if_true, if_false, ite_true, ite_false, Int.reduceLT, Int.reduceLE, ptr, callV_func Try.enters_37, Try.len_66, Try.ia_66, Try.ld_69, allocV_zero Try.zero_69, Try.st_69, Try.fa_69_3, Try.ld_4, Try.fa_69_0, Try.ld_9, callV_func Try.enters_120, rs_tmp (show Try.f49.results = #[.tmp 4] from rfl)]
  refine all_t f h (n := n + 9) (by omega) fun σ1 va hva hba hS1 => ?_
  have h1 := h.same hS1 nofun
  obtain ⟨⟨m, pa, Fa, M, hp, hM, rfl⟩, hks, hok, hlen, hrm⟩ := h1
  have hfl := hp.al.low
  have hfl0 : ∀ b ∈ Fa, b < σ.next := fun b hb => hlo b (by simp [hb])
  have hml0 : m < σ.next := hlo m (by simp)
  have hpl0 : p < σ.next := hlo p (by simp)
  have hn1 := hS1.next
  obtain ⟨a, c, rfl, hac⟩ := hva.len
  simp (maxSteps := 2000000) only [B0, B1, B2, B3, B4, B5, B6, B7, Gd, extV, Nat.reduceLT, Nat.reduceEqDiff, Nat.reduceBEq, Nat.reduceAdd, Nat.reduceSub, Nat.reduceMul, ↓reduceIte, reduceCtorEq, if_true, if_false, ite_true, ite_false, Int.reduceLT, Int.reduceLE, ptr, callV_func Try.enters_37, Try.len_66, Try.ia_66, Try.ld_69, allocV_zero Try.zero_69, Try.st_69, Try.fa_69_3, Try.ld_4, Try.fa_69_0, Try.ld_9, callV_func Try.enters_120, rs_tmp (show Try.f49.results = #[.tmp 4] from rfl)]
  refine W_inv (fun k fr σ' => ∃ (t : Tr Value) (j : Nat) (v : Value) (M' : Prs), fr = ⟨32, t⟩ ∧ t.get 0 = some (pt p) ∧ t.get 1 = some gv ∧ t.get 5 = some v ∧ t.get 9 = some (.slice a T.length c) ∧ t.get 10 = some (.int .i64 (T.length : Int)) ∧ t.get 11 = some (.int .i64 (j : Int)) ∧ k + j = T.length ∧ TabP σ' p m pa Fa M' (alS (lessT T (keysOf (sweepT (T.take j) gone)))) room ref ∧ MapE M' (lessT T (keysOf (sweepT (T.take j) gone))) ∧ SlAt σ' 69 4 encE v (sweepT (T.take j) gone) ∧ (∀ b ∈ blks v, σ1.next ≤ b) ∧ Same σ1 σ' (m :: Fa)) T.length (by omega)
    ⟨_, 0, .slice none 0 0, M, rfl, by simp [get_put, get_args], by simp [get_put, get_args], by simp [get_put], by simp [get_put], by simp [get_put], by simp [get_put], rfl, by rw [List.take_zero, show keysOf (sweepT [] gone) = [] from rfl, less_nil]; exact hp, by rw [List.take_zero, show keysOf (sweepT [] gone) = [] from rfl, less_nil]; exact hM, .inl ⟨rfl, by rw [List.take_zero]; rfl⟩, nofun, .refl _ _⟩ ?_
  rintro k fr σ2 ⟨t, j, v, M2, rfl, t0, t1, t5, t9, t10, t11, hk, hp2, hM2, hv, hbv, hS2⟩
  have hn2 := hS2.next
  by_cases hj : j < T.length
  · have hx := List.getElem?_eq_getElem hj
    have hxm := List.getElem_mem hj
    have htk : T.take (j + 1) = T.take j ++ [T[j]] := by rw [List.take_add_one, hx]; rfl
    have hnk : ∀ e ∈ T.take j, e.1 ≠ T[j].1 := fun e he w => by
      have h2 : KS (T.take (j + 1)) := hks.sublist (List.take_sublist _ _)
      rw [htk] at h2
      unfold KS at h2
      have := (List.pairwise_append.1 h2).2.2 e he T[j] (by simp)
      rw [w, sLt_irr] at this
      cases this
    generalize T[j] = x at hx hxm htk hnk
    have hsw : sweepT (T.take (j + 1)) gone = sweepT (T.take j) gone ++ sweepT [x] gone := by rw [htk]; unfold sweepT; rw [List.filter_append]
    have hva2 := hva.same hS2 (fun b hb q => by have := hba b hb; simp at q; rcases q with q | q; omega; have := hfl0 _ q; omega)
    obtain ⟨b, o, cap, g0, e0, hb, hbl, hr⟩ := hva2.at_ hx
    injection e0 with e0 _ e3
    subst e0 e3
    have hld := hr.ldCells encEOk hx
    obtain ⟨σ3, σ4, e3, t4, hS4, v4, hn4, _⟩ := AE.newVar σ2 69 (encE zE) (encE x) rfl (encEOk.single x)
    have l4 : ldCells σ4 σ2.next 0 4 = some (encE x) := v4.ldCells
    have x3 : ld σ4 σ2.next 3 = some (.bool x.2.2.2) := v4.ld rfl
    simp only [encE] at hld e3 t4 l4
    have hp4 := hp2.same0 hS4
    have hj' : (j : Int) < (T.length : Int) := by omega
    have hw1 : IntKind.i64.wrap ((j : Int) + 1) = ((j + 1 : Nat) : Int) := wrap64 (by omega) (by omega)
    have hS04 : Same σ σ4 (p :: m :: Fa) := ((hS1.app hS2).app hS4).old fun b hb => by simp at hb; left; simp; rcases hb with hb | hb; exact .inr (.inl hb); exact .inr (.inr hb)
    cases hst : x.2.2.2 with
    | true =>
      rw [hst] at x3 hld t4 l4
      have hs1 : sweepT [x] gone = [] := by unfold sweepT; simp [hst]
      rw [hs1, List.append_nil] at hsw
      simp (maxSteps := 2000000) only [B0, B1, B2, B3, B4, B5, B6, B7, Gd, extV, Nat.reduceLT, Nat.reduceEqDiff, Nat.reduceBEq, Nat.reduceAdd, Nat.reduceSub, Nat.reduceMul, ↓reduceIte, reduceCtorEq, if_true, if_false, ite_true, ite_false, Int.reduceLT, Int.reduceLE, ptr, callV_func Try.enters_37, Try.len_66, Try.ia_66, Try.ld_69, allocV_zero Try.zero_69, Try.st_69, Try.fa_69_3, Try.ld_4, Try.fa_69_0, Try.ld_9, callV_func Try.enters_120, x3, t0,  t1,  t5,  t9,  t10,  t11,  hj',  hj,  hld,  e3,  t4,  Value.cells,  List.size_toArray,  l4,  hw1,  KInv_normal, rs_tmp (show Try.f49.results = #[.tmp 4] from rfl)]
      exact ⟨T.length - (j + 1), by omega, _, j + 1, v, M2, rfl, by simp [get_put, t0], by simp [get_put, t1], by simp [get_put, t5], by simp [get_put, t9], by simp [get_put, t10], by simp [get_put], by omega, by rw [hsw]; exact hp4, by rw [hsw]; exact hM2, by rw [hsw]; exact hv.same hS4 nofun, hbv, (hS2.app hS4).old fun b hb => by simp only [List.append_nil] at hb; exact .inl hb⟩
    | false =>
      have hg4 := hg x hxm σ4
      unfold enV at hg4
      rw [hst] at x3 hld t4 l4 hg4
      simp (maxSteps := 2000000) only [B0, B1, B2, B3, B4, B5, B6, B7, Gd, extV, Nat.reduceLT, Nat.reduceEqDiff, Nat.reduceBEq, Nat.reduceAdd, Nat.reduceSub, Nat.reduceMul, ↓reduceIte, reduceCtorEq, if_true, if_false, ite_true, ite_false, Int.reduceLT, Int.reduceLE, ptr, callV_func Try.enters_37, Try.len_66, Try.ia_66, Try.ld_69, allocV_zero Try.zero_69, Try.st_69, Try.fa_69_3, Try.ld_4, Try.fa_69_0, Try.ld_9, callV_func Try.enters_120, x3, t0,  t1,  t5,  t9,  t10,  t11,  hj',  hj,  hld,  e3,  t4,  Value.cells,  List.size_toArray,  l4,  hw1,  KInv_normal, rs_tmp (show Try.f49.results = #[.tmp 4] from rfl)]
      refine hg4 _ hS04 fun σ5 hS5 => ?_
      have hp5 := hp4.same0 hS5
      have v5 := v4.same hS5 nofun
      have x0 : ld σ5 σ2.next 0 = some (.string x.1) := v5.ld rfl
      have hv5 := (hv.same hS4 nofun).same hS5 nofun
      have hn5 := hS5.next
      cases hgo : gone x with
      | false =>
        have hs1 : sweepT [x] gone = [] := by unfold sweepT; simp [hgo]
        rw [hs1, List.append_nil] at hsw
        simp (maxSteps := 2000000) only [B0, B1, B2, B3, B4, B5, B6, B7, Gd, extV, Nat.reduceLT, Nat.reduceEqDiff, Nat.reduceBEq, Nat.reduceAdd, Nat.reduceSub, Nat.reduceMul, ↓reduceIte, reduceCtorEq, if_true, if_false, ite_true, ite_false, Int.reduceLT, Int.reduceLE, ptr, callV_func Try.enters_37, Try.len_66, Try.ia_66, Try.ld_69, allocV_zero Try.zero_69, Try.st_69, Try.fa_69_3, Try.ld_4, Try.fa_69_0, Try.ld_9, callV_func Try.enters_120, t0,  t1,  t5,  t9,  t10,  t11,  hj',  hj,  hld,  e3,  t4,  Value.cells,  List.size_toArray,  l4,  hw1,  KInv_normal, rs_tmp (show Try.f49.results = #[.tmp 4] from rfl)]
        exact ⟨T.length - (j + 1), by omega, _, j + 1, v, M2, rfl, by simp [get_put, t0], by simp [get_put, t1], by simp [get_put, t5], by simp [get_put, t9], by simp [get_put, t10], by simp [get_put], by omega, by rw [hsw]; exact hp5, by rw [hsw]; exact hM2, by rw [hsw]; exact hv5, hbv, ((hS2.app hS4).app hS5).old fun b hb => by simp only [List.append_nil] at hb; exact .inl hb⟩
      | true =>
        have hs1 : sweepT [x] gone = [x] := by unfold sweepT; simp [hgo, hst]
        rw [hs1] at hsw
        have hgx : getE x.1 (lessT T (keysOf (sweepT (T.take j) gone))) = some x := by
          rw [less_get hks]
          · exact getE_mem hks.nd hxm
          · intro y hy
            obtain ⟨z, hz, rfl⟩ := List.mem_map.1 hy
            exact hnk z (List.mem_filter.1 hz).1
        have hlk := less_ks hks (keysOf (sweepT (T.take j) gone))
        have hll : (lessT T (keysOf (sweepT (T.take j) gone))).length ≤ T.length := List.length_filter_le _ _
        have hal2 := alS_len hlk
        have hko : keysOf (sweepT (T.take (j + 1)) gone) = keysOf (sweepT (T.take j) gone) ++ [(x.1, x.2.2.1)] := by rw [hsw]; unfold keysOf; rw [List.map_append]; rfl
        simp (maxSteps := 2000000) only [B0, B1, B2, B3, B4, B5, B6, B7, Gd, extV, Nat.reduceLT, Nat.reduceEqDiff, Nat.reduceBEq, Nat.reduceAdd, Nat.reduceSub, Nat.reduceMul, ↓reduceIte, reduceCtorEq, if_true, if_false, ite_true, ite_false, Int.reduceLT, Int.reduceLE, ptr, callV_func Try.enters_37, Try.len_66, Try.ia_66, Try.ld_69, allocV_zero Try.zero_69, Try.st_69, Try.fa_69_3, Try.ld_4, Try.fa_69_0, Try.ld_9, callV_func Try.enters_120, x0, t0,  t1,  t5,  t9,  t10,  t11,  hj',  hj,  hld,  e3,  t4,  Value.cells,  List.size_toArray,  l4,  hw1,  KInv_normal, rs_tmp (show Try.f49.results = #[.tmp 4] from rfl)]
        refine takes_run f.toFreeT hp5 x.1 (e := x) (by rw [hM2.get, hgx]; rfl) (by omega) (by omega) fun σ6 hp6 hS6 => ?_
        rw [alS_del hlk] at hp6
        have hM6 := hM2.del hp5.mp.nodup hlk x.1
        have hdel := less_del (T := T) (D := keysOf (sweepT (T.take j) gone)) (x := (x.1, x.2.2.1))
        simp only at hdel
        rw [hdel, ← hko] at hM6 hp6
        have hvv : ∀ b ∈ blks v, b ∉ m :: Fa := fun b hb q => by have := hbv b hb; simp at q; rcases q with q | q; omega; have := hfl0 _ q; omega
        have hv6 := hv5.same hS6 hvv
        obtain ⟨av, cv, rfl, hcv⟩ := hv6.len
        have hsl : (sweepT (T.take j) gone).length ≤ 1024 := by have h1 := List.length_filter_le (fun e : E => !e.2.2.2 && gone e) (T.take j); have h2 := List.length_take_le j T; unfold sweepT; have : (T.take j).length ≤ T.length := by rw [List.length_take]; omega
                                                                omega
        obtain ⟨σ7, v8, σ8, hbs, hap, hv8, hS8, hb8, hS7, hn8⟩ := append_one encEOk Try.underlying66 Try.underlying66 Try.elem_69 rfl (by decide) hv6 x (xv := .agg #[.string x.1, .int .i64 x.2.1, .int .i64 x.2.2.1, .bool x.2.2.2]) rfl (by omega)
        have hn6 := hS6.next
        simp (maxSteps := 2000000) only [B0, B1, B2, B3, B4, B5, B6, B7, Gd, extV, Nat.reduceLT, Nat.reduceEqDiff, Nat.reduceBEq, Nat.reduceAdd, Nat.reduceSub, Nat.reduceMul, ↓reduceIte, reduceCtorEq, if_true, if_false, ite_true, ite_false, Int.reduceLT, Int.reduceLE, ptr, callV_func Try.enters_37, Try.len_66, Try.ia_66, Try.ld_69, allocV_zero Try.zero_69, Try.st_69, Try.fa_69_3, Try.ld_4, Try.fa_69_0, Try.ld_9, callV_func Try.enters_120, enV,  hbs,  hap, t0,  t1,  t5,  t9,  t10,  t11,  hj',  hj,  hld,  e3,  t4,  Value.cells,  List.size_toArray,  l4,  hw1,  KInv_normal, rs_tmp (show Try.f49.results = #[.tmp 4] from rfl)]
        refine ⟨T.length - (j + 1), by omega, _, j + 1, v8, _, rfl, by simp [get_put, t0], by simp [get_put, t1], by simp [get_put], by simp [get_put, t9], by simp [get_put, t10], by simp [get_put], by omega, hp6.same hS8 (fun q => by have := hbv _ q; omega) (fun q => by have := hbv _ q; omega) (fun b hb q => by have := hbv _ q; have := hfl0 b hb; omega), hM6, by rw [hsw]; exact hv8, fun b hb => ?_, ?_⟩
        · rcases hb8 b hb with w | w
          · exact hbv b w
          · omega
        · exact ((((hS2.app hS4).app hS5).app hS6).app hS8).old fun b hb => by
            simp only [List.append_nil, List.mem_append] at hb
            rcases hb with (hb | hb) | hb
            · exact .inl hb
            · exact .inl hb
            · exact .inr (hbv b hb)
  · have hj' : ((j : Int) < (T.length : Int)) = False := eq_false (by omega)
    have hje : T.take j = T := List.take_of_length_le (by omega)
    rw [hje, less_keys hks] at hM2 hp2
    rw [hje] at hv
    simp (maxSteps := 2000000) only [B0, B1, B2, B3, B4, B5, B6, B7, Gd, extV, Nat.reduceLT, Nat.reduceEqDiff, Nat.reduceBEq, Nat.reduceAdd, Nat.reduceSub, Nat.reduceMul, ↓reduceIte, reduceCtorEq, if_true, if_false, ite_true, ite_false, Int.reduceLT, Int.reduceLE, ptr, callV_func Try.enters_37, Try.len_66, Try.ia_66, Try.ld_69, allocV_zero Try.zero_69, Try.st_69, Try.fa_69_3, Try.ld_4, Try.fa_69_0, Try.ld_9, callV_func Try.enters_120, t0,  t1,  t5,  t9,  t10,  t11,  hj', rs_tmp (show Try.f49.results = #[.tmp 4] from rfl)]
    refine hQ σ2 v ⟨⟨m, pa, Fa, M2, hp2, hM2, rfl⟩, kept_ks hks _, fun e he => hok e (List.mem_filter.1 he).1, Nat.le_trans (List.length_filter_le _ _) hlen, hrm⟩ hv (fun b hb => by have := hbv b hb; omega) ((hS1.app hS2).old fun b hb => ?_)
    simp at hb ⊢
    rcases hb with hb | hb
    · exact .inl (.inr (.inl hb))
    · exact .inl (.inr (.inr hb))
end Go.Proofs.Ytongccpmdndcgaa.Tab
end
/- Tables: one's own table through calls; the law's example. -/
section
set_option linter.all false
namespace Go.Proofs.Ytongccpmdndcgaa.Tab
open Go Go.AE Go.Proofs.Ytongccpmdndcgaa.Alm Go.Sort Go.Proofs
set_option maxRecDepth 100000
set_option maxHeartbeats 1000000
attribute [local irreducible] Go.AE.Tr.put Go.AE.Tr.get
variable {gs : List Nat} {orc : Orc} {n : Nat} {σ : AHeap} {Q : Value × AHeap → Prop}
variable {p room : Nat} {F : List Nat} {T : List E} {ref : Bool}

/-- A table that was made behind σ. -/
structure Own (σ σ' : AHeap) (p : Nat) (F : List Nat) (T : List E) (room : Nat) (ref : Bool) : Prop where
  h : TAt σ' p F T room ref
  low : ∀ b ∈ F, σ.next ≤ b
  same : Same σ σ' []
theorem Own.step {σ1 σ2 : AHeap} (w : Own σ σ1 p F T room ref) (hS : Same σ1 σ2 []) : Own σ σ2 p F T room ref := ⟨w.h.same hS nofun, w.low, w.same.trans hS nofun⟩
theorem Own.call {σ1 σ2 : AHeap} {F' : List Nat} {T' : List E} (w : Own σ σ1 p F T room ref) (h : TAt σ2 p F' T' room ref) (hF : ∀ b ∈ F', b ∈ F ∨ σ1.next ≤ b) (hS : Same σ1 σ2 F) : Own σ σ2 p F' T' room ref :=
  ⟨h, fun b hb => by rcases hF b hb with z | z; exact w.low b z; have := w.same.next; omega, (w.same.app hS).old fun b hb => by simp at hb; exact .inr (w.low b hb)⟩
/-- A variable beside it. -/
structure VarO (σ σ' : AHeap) (F : List Nat) (b : Nat) (vs : List Value) : Prop where
  v : VarAt σ' b vs
  low : σ.next ≤ b
  nF : b ∉ F
theorem VarO.call {σ1 σ2 : AHeap} {F' : List Nat} {b : Nat} {vs : List Value} (w : VarO σ σ1 F b vs) (hF : ∀ b ∈ F', b ∈ F ∨ σ1.next ≤ b) (hS : Same σ1 σ2 F) : VarO σ σ2 F' b vs :=
  ⟨w.v.same hS w.nF, w.low, fun q => by rcases hF b q with z | z; exact w.nF z; have := w.v.1; omega⟩
theorem VarO.step {σ1 σ2 : AHeap} {b : Nat} {vs : List Value} (w : VarO σ σ1 F b vs) (hS : Same σ1 σ2 []) : VarO σ σ2 F b vs := ⟨w.v.same hS nofun, w.low, w.nF⟩
theorem Own.var {σ1 : AHeap} (w : Own σ σ1 p F T room ref) (t : TypeId) (zs vs : List Value) (hl : vs.length = zs.length) (hs : ∀ v ∈ vs, single v = true) :
    ∃ σ2 σ3, (newCells σ1 t zs).2 = σ2 ∧ stCells σ2 σ1.next 0 vs = some σ3 ∧ Own σ σ3 p F T room ref ∧ VarO σ σ3 F σ1.next vs ∧ Same σ1 σ3 [] := by
  obtain ⟨σ2, σ3, e2, t3, hS, hv, hn, _⟩ := AE.newVar σ1 t zs vs hl hs
  exact ⟨σ2, σ3, e2, t3, w.step hS, ⟨hv, w.same.next, fun q => by have := w.h.low _ q; omega⟩, hS⟩
/-- A variable laid anew. -/
theorem Own.put {σ1 : AHeap} {b : Nat} {vs vs' : List Value} (w : Own σ σ1 p F T room ref) (x : VarO σ σ1 F b vs) (hl : vs'.length = vs.length) (hs : ∀ v ∈ vs', single v = true) :
    ∃ σ2, stCells σ1 b 0 vs' = some σ2 ∧ Own σ σ2 p F T room ref ∧ VarO σ σ2 F b vs' ∧ Same σ1 σ2 [b] := by
  obtain ⟨σ2, t2, hv, hS, hn⟩ := x.v.store hl hs
  exact ⟨σ2, t2, ⟨w.h.same hS (fun c hc q => x.nF (by simp at q; exact q ▸ hc)), w.low, (w.same.app hS).old fun c hc => by simp at hc; subst hc; exact .inr x.low⟩, ⟨hv, x.low, x.nF⟩, hS⟩
abbrev ka : ByteArray := ⟨#[97]⟩
abbrev kb : ByteArray := ⟨#[98]⟩
abbrev kc : ByteArray := ⟨#[99]⟩
abbrev kd : ByteArray := ⟨#[100]⟩
abbrev ke : ByteArray := ⟨#[101]⟩
theorem wk1 : putT [] 2 false ka 1 5 = ([(ka, 1, 5, false)], zE, 0) := by decide
theorem wk2 : putT [(ka, 1, 5, false)] 2 false kb 2 3 = ([(ka, 1, 5, false), (kb, 2, 3, false)], zE, 0) := by decide
theorem wk3 : putT [(ka, 1, 5, false), (kb, 2, 3, false)] 2 false kc 3 9 = ([(ka, 1, 5, false), (kc, 3, 9, false)], (kb, 2, 3, false), 0) := by decide
theorem wk4 : fixT [(ka, 1, 5, false), (kc, 3, 9, false)] 2 false ka 1 = ([(ka, 1, 0, true), (kc, 3, 9, false)], zE, 0) := by decide
theorem wk5 : putT [(ka, 1, 0, true), (kc, 3, 9, false)] 2 false kd 4 1 = ([(ka, 1, 0, true), (kd, 4, 1, false)], (kc, 3, 9, false), 0) := by decide
theorem wk6 : fixT [(ka, 1, 0, true), (kd, 4, 1, false)] 2 false kd 4 = ([(ka, 1, 0, true), (kd, 4, 0, true)], zE, 0) := by decide
theorem wk7 : putT [(ka, 1, 0, true), (kd, 4, 0, true)] 2 false ke 5 0 = ([(ka, 1, 0, true), (kd, 4, 0, true)], zE, 7) := by decide
theorem tlen_t (f : FreeT orc) (h : TAt σ p F T room ref) : W (acall Try.prog gs orc (n + 2) 48 [pt p] σ) Q = Q (.int .i64 (T.length : Int), σ) := by
  obtain ⟨m, pa, Fa, M, hp, hM, rfl⟩ := h.ex
  rw [tlen_run f hp, hM.len]
theorem wakes_run (f : FreeU orc) (h45 : orc 45 = none) (hn : 1024 < n) (hQ : ∀ σ', Same σ σ' [] → Q (.bool true, σ')) : W (acall Try.prog gs orc (n + 14) 45 [] σ) Q := by
  rw [W_start (m := 63) (keep := []) Try.func45 rfl (by kernel_rfl) (by kernel_rfl) (by first | rfl | assumption | exact f.h45) (by rfl)]
  simp (maxSteps := 2000000) only [B0, B1, B2, B3, B4, B5, B6, B7, Gd, extV, Nat.reduceLT, Nat.reduceEqDiff, Nat.reduceBEq, Nat.reduceAdd, Nat.reduceSub, Nat.reduceMul, ↓reduceIte, reduceCtorEq, if_true, if_false, ite_true, ite_false, Int.reduceLT, Int.reduceLE, ptr, callV_func Try.enters_36, callV_func Try.enters_39, allocV_zero Try.zero_69, Try.st_69, callV_func Try.enters_40, Try.fa_69_0, Try.ld_9, callV_func Try.enters_48, rs_tmp (show Try.f45.results = #[.tmp 0] from rfl)]
  refine tnew_run (room := 2) f.toFreeT (by omega) fun σ1 p F h1 hF1 hS1 => ?_
  have w1 : Own σ σ1 p F [] 2 false := ⟨h1, hF1, hS1⟩
  simp (maxSteps := 2000000) only [B0, B1, B2, B3, B4, B5, B6, B7, Gd, extV, Nat.reduceLT, Nat.reduceEqDiff, Nat.reduceBEq, Nat.reduceAdd, Nat.reduceSub, Nat.reduceMul, ↓reduceIte, reduceCtorEq, if_true, if_false, ite_true, ite_false, Int.reduceLT, Int.reduceLE, ptr, callV_func Try.enters_36, callV_func Try.enters_39, allocV_zero Try.zero_69, Try.st_69, callV_func Try.enters_40, Try.fa_69_0, Try.ld_9, callV_func Try.enters_48, Int.reduceEq, rs_tmp (show Try.f45.results = #[.tmp 0] from rfl)]
  refine put_run f.toFreeT w1.h ka 1 5 hn fun σ2 F2 h2 hF2 hS2 => ?_
  rw [wk1] at h2 ⊢
  have w2 := w1.call h2 hF2 hS2
  simp (maxSteps := 2000000) only [B0, B1, B2, B3, B4, B5, B6, B7, Gd, extV, Nat.reduceLT, Nat.reduceEqDiff, Nat.reduceBEq, Nat.reduceAdd, Nat.reduceSub, Nat.reduceMul, ↓reduceIte, reduceCtorEq, if_true, if_false, ite_true, ite_false, Int.reduceLT, Int.reduceLE, ptr, callV_func Try.enters_36, callV_func Try.enters_39, allocV_zero Try.zero_69, Try.st_69, callV_func Try.enters_40, Try.fa_69_0, Try.ld_9, callV_func Try.enters_48, rs_tmp (show Try.f45.results = #[.tmp 0] from rfl)]
  refine put_run f.toFreeT w2.h kb 2 3 hn fun σ3 F3 h3 hF3 hS3 => ?_
  rw [wk2] at h3 ⊢
  have w3 := w2.call h3 hF3 hS3
  simp (maxSteps := 2000000) only [B0, B1, B2, B3, B4, B5, B6, B7, Gd, extV, Nat.reduceLT, Nat.reduceEqDiff, Nat.reduceBEq, Nat.reduceAdd, Nat.reduceSub, Nat.reduceMul, ↓reduceIte, reduceCtorEq, if_true, if_false, ite_true, ite_false, Int.reduceLT, Int.reduceLE, ptr, callV_func Try.enters_36, callV_func Try.enters_39, allocV_zero Try.zero_69, Try.st_69, callV_func Try.enters_40, Try.fa_69_0, Try.ld_9, callV_func Try.enters_48, rs_tmp (show Try.f45.results = #[.tmp 0] from rfl)]
  refine put_run f.toFreeT w3.h kc 3 9 hn fun σ4 F4 h4 hF4 hS4 => ?_
  rw [wk3] at h4 ⊢
  have w4 := w3.call h4 hF4 hS4
  obtain ⟨σ5, σ6, e5, t6, w6, x6, hS6⟩ := w4.var 69 (encE zE) (encE (kb, 2, 3, false)) rfl (encEOk.single _)
  simp only [encE] at e5 t6 x6
  simp (maxSteps := 2000000) only [B0, B1, B2, B3, B4, B5, B6, B7, Gd, extV, Nat.reduceLT, Nat.reduceEqDiff, Nat.reduceBEq, Nat.reduceAdd, Nat.reduceSub, Nat.reduceMul, ↓reduceIte, reduceCtorEq, if_true, if_false, ite_true, ite_false, Int.reduceLT, Int.reduceLE, ptr, callV_func Try.enters_36, callV_func Try.enters_39, allocV_zero Try.zero_69, Try.st_69, callV_func Try.enters_40, Try.fa_69_0, Try.ld_9, callV_func Try.enters_48, enV,  Value.cells,  e5,  t6,  List.size_toArray, rs_tmp (show Try.f45.results = #[.tmp 0] from rfl)]
  refine fix_run f.toFreeT w6.h ka 1 hn fun σ7 F7 h7 hF7 hS7 => ?_
  rw [wk4] at h7 ⊢
  have w7 := w6.call h7 hF7 hS7
  have x7 := x6.call hF7 hS7
  simp (maxSteps := 2000000) only [B0, B1, B2, B3, B4, B5, B6, B7, Gd, extV, Nat.reduceLT, Nat.reduceEqDiff, Nat.reduceBEq, Nat.reduceAdd, Nat.reduceSub, Nat.reduceMul, ↓reduceIte, reduceCtorEq, if_true, if_false, ite_true, ite_false, Int.reduceLT, Int.reduceLE, ptr, callV_func Try.enters_36, callV_func Try.enters_39, allocV_zero Try.zero_69, Try.st_69, callV_func Try.enters_40, Try.fa_69_0, Try.ld_9, callV_func Try.enters_48, rs_tmp (show Try.f45.results = #[.tmp 0] from rfl)]
  refine put_run f.toFreeT w7.h kd 4 1 hn fun σ8 F8 h8 hF8 hS8 => ?_
  rw [wk5] at h8 ⊢
  have w8 := w7.call h8 hF8 hS8
  have x8 := x7.call hF8 hS8
  obtain ⟨σ9, σ10, e9, t10, w10, y10, hS10⟩ := w8.var 69 (encE zE) (encE (kc, 3, 9, false)) rfl (encEOk.single _)
  have x10 := x8.step hS10
  simp only [encE] at e9 t10 y10
  simp (maxSteps := 2000000) only [B0, B1, B2, B3, B4, B5, B6, B7, Gd, extV, Nat.reduceLT, Nat.reduceEqDiff, Nat.reduceBEq, Nat.reduceAdd, Nat.reduceSub, Nat.reduceMul, ↓reduceIte, reduceCtorEq, if_true, if_false, ite_true, ite_false, Int.reduceLT, Int.reduceLE, ptr, callV_func Try.enters_36, callV_func Try.enters_39, allocV_zero Try.zero_69, Try.st_69, callV_func Try.enters_40, Try.fa_69_0, Try.ld_9, callV_func Try.enters_48, enV,  Value.cells,  e9,  t10,  List.size_toArray, rs_tmp (show Try.f45.results = #[.tmp 0] from rfl)]
  refine fix_run f.toFreeT w10.h kd 4 hn fun σ11 F11 h11 hF11 hS11 => ?_
  rw [wk6] at h11 ⊢
  have w11 := w10.call h11 hF11 hS11
  have x11 := x10.call hF11 hS11
  have y11 := y10.call hF11 hS11
  simp (maxSteps := 2000000) only [B0, B1, B2, B3, B4, B5, B6, B7, Gd, extV, Nat.reduceLT, Nat.reduceEqDiff, Nat.reduceBEq, Nat.reduceAdd, Nat.reduceSub, Nat.reduceMul, ↓reduceIte, reduceCtorEq, if_true, if_false, ite_true, ite_false, Int.reduceLT, Int.reduceLE, ptr, callV_func Try.enters_36, callV_func Try.enters_39, allocV_zero Try.zero_69, Try.st_69, callV_func Try.enters_40, Try.fa_69_0, Try.ld_9, callV_func Try.enters_48, rs_tmp (show Try.f45.results = #[.tmp 0] from rfl)]
  refine put_run f.toFreeT w11.h ke 5 0 hn fun σ12 F12 h12 hF12 hS12 => ?_
  rw [wk7] at h12 ⊢
  have w12 := w11.call h12 hF12 hS12
  have x12 := x11.call hF12 hS12
  have y12 := y11.call hF12 hS12
  obtain ⟨σ13, σ14, e13, t14, w14, z14, hS14⟩ := w12.var 69 (encE zE) (encE zE) rfl (encEOk.single _)
  have x14 := (x12.step hS14).v.ld (o := 0) rfl
  have y14 := (y12.step hS14).v.ld (o := 0) rfl
  simp only [encE] at e13 t14
  simp (maxSteps := 2000000) only [B0, B1, B2, B3, B4, B5, B6, B7, Gd, extV, Nat.reduceLT, Nat.reduceEqDiff, Nat.reduceBEq, Nat.reduceAdd, Nat.reduceSub, Nat.reduceMul, ↓reduceIte, reduceCtorEq, if_true, if_false, ite_true, ite_false, Int.reduceLT, Int.reduceLE, ptr, callV_func Try.enters_36, callV_func Try.enters_39, allocV_zero Try.zero_69, Try.st_69, callV_func Try.enters_40, Try.fa_69_0, Try.ld_9, callV_func Try.enters_48, enV,  Value.cells,  e13,  t14,  List.size_toArray,  x14,  y14,  tlen_t f.toFreeT w14.h,  Int.reduceEq,  List.length_cons,  List.length_nil, rs_tmp (show Try.f45.results = #[.tmp 0] from rfl)]
  exact hQ σ14 w14.same
end Go.Proofs.Ytongccpmdndcgaa.Tab
end
/- Tables: plain laws on what is due. -/
section
set_option linter.all false
namespace Go.Proofs.Ytongccpmdndcgaa.Tab
open Go Go.AE Go.Proofs.Ytongccpmdndcgaa.Alm Go.Sort Go.Proofs
variable {T : List E}

theorem filt_len {α : Type} (q : α → Bool) : ∀ L : List α, (L.filter q).length + (L.filter fun x => !q x).length = L.length
  | [] => rfl
  | x :: l => by
    have ih := filt_len q l
    cases h : q x <;> simp [h] <;> omega
/-- An entry's alarm. -/
def alE (e : E) : Al := (e.1, e.2.2.1)
theorem due_filter {t : Int} : ∀ {L : List Al}, L.Pairwise lt → Alm.due t L = L.filter fun x => decide (x.2 ≤ t)
  | [], _ => rfl
  | y :: l, h => by
    have h1 := List.pairwise_cons.1 h
    by_cases q : y.2 ≤ t
    · rw [List.filter_cons_of_pos (by simpa using q), ← due_filter h1.2]
      unfold Alm.due
      rw [List.takeWhile_cons_of_pos (by simpa using q)]
    · rw [List.filter_cons_of_neg (by simpa using q)]
      have : l.filter (fun x => decide (x.2 ≤ t)) = [] := by
        refine List.filter_eq_nil_iff.2 fun z hz => ?_
        have := h1.1 z hz
        rw [lt_iff] at this
        simp only [decide_eq_true_eq]
        rcases this with w | ⟨w, _⟩ <;> omega
      rw [this]
      unfold Alm.due
      rw [List.takeWhile_cons_of_neg (by simpa using q)]
theorem get_al (h : KS T) {x : Al} (hx : x ∈ alS T) : ∃ e ∈ T, e.2.2.2 = false ∧ getE x.1 T = some e ∧ alE e = x := by
  obtain ⟨e, he, hs, rfl⟩ := (alS_mem h).1 hx
  exact ⟨e, he, hs, getE_mem h.nd he, rfl⟩
theorem due_sub {now : Int} {x : Al} (hx : x ∈ Alm.due now (alS T)) : x ∈ alS T := (List.takeWhile_sublist _).subset hx
theorem dueT_al (h : KS T) (now : Int) : (dueT T now).map alE = Alm.due now (alS T) := by
  unfold dueT
  rw [List.map_map]
  conv => rhs; rw [← List.map_id (Alm.due now (alS T))]
  refine List.map_congr_left fun x hx => ?_
  obtain ⟨e, he, hs, hg, ha⟩ := get_al h (due_sub hx)
  simp [hg, ha]
theorem dueT_len (h : KS T) (now : Int) : (dueT T now).length + (restT T now).length = T.length := by
  have e1 : (dueT T now).length = (T.filter fun e => !(e.2.2.2 || decide (now < e.2.2.1))).length := by
    rw [← List.length_map (f := alE), dueT_al h, due_filter (alS_of h).srt, ((alS_of h).perm.filter _).length_eq]
    unfold alsE
    rw [List.filter_map, List.length_map, List.filter_filter]
    congr 1
    refine List.filter_congr fun e _ => ?_
    simp only [Function.comp]
    by_cases q : now < e.2.2.1
    · have q2 : ¬ e.2.2.1 ≤ now := by omega
      cases e.2.2.2 <;> simp [q, q2]
    · have q2 : e.2.2.1 ≤ now := by omega
      cases e.2.2.2 <;> simp [q, q2]
  rw [e1]
  have := filt_len (fun e : E => e.2.2.2 || decide (now < e.2.2.1)) T
  unfold restT
  omega
end Go.Proofs.Ytongccpmdndcgaa.Tab
end
/- The law on what a table tells as due: the run. -/
section
set_option linter.all false
namespace Go.Proofs.Ytongccpmdndcgaa.Tab
open Go Go.AE Go.Proofs.Ytongccpmdndcgaa.Alm Go.Sort Go.Proofs
set_option maxRecDepth 100000
set_option maxHeartbeats 2000000
attribute [local irreducible] Go.AE.Tr.put Go.AE.Tr.get
variable {gs : List Nat} {orc : Orc} {n : Nat} {σ : AHeap} {Q : Value × AHeap → Prop}

abbrev Act := Int × ByteArray × Int × Int
def encAct (x : Act) : List Value := [.int .i64 x.1, .string x.2.1, .int .i64 x.2.2.1, .int .i64 x.2.2.2]
theorem encActOk : Enc 4 encAct := ⟨fun _ => rfl, fun x v hv => by simp [encAct] at hv; rcases hv with rfl | rfl | rfl | rfl <;> rfl, by omega⟩
structure FreeV (orc : Orc) : Prop extends FreeU orc where
  h43 : orc 43 = none
  h44 : orc 44 = none
  h45 : orc 45 = none
  h50 : orc 50 = none
  h121 : orc 121 = none
  h7 : orc 7 = none
  h8 : orc 8 = none
  h9 : orc 9 = none
end Go.Proofs.Ytongccpmdndcgaa.Tab
end
/- The tables' laws: the table of contracts, what came in. -/
section
set_option linter.all false
namespace Go.Proofs.Ytongccpmdndcgaa.Tab
open Go Go.AE Go.Proofs.Ytongccpmdndcgaa.Alm Go.Sort Go.Proofs Go.RowKit Go.ChangeShapes
set_option maxRecDepth 100000

def table13 : List (FuncId × (List Value → AHeap → Option (Value × AHeap))) := (101, sortFO 2 decA encA srtA 102) :: Try.table
theorem told13 : OrcS False Try.prog [] (orcs table13) := .cons sort_told Try.told
theorem free13 : FreeV (orcs table13) := { h102 := rfl, h151 := rfl, h152 := rfl, h153 := rfl, h185 := rfl, h186 := rfl, h234 := rfl, h235 := rfl, h236 := rfl, h237 := rfl, h20 := rfl, h99 := rfl, h154 := rfl, h156 := rfl, h103 := rfl, h105 := rfl, h106 := rfl, h107 := rfl, h19 := rfl, h22 := rfl, h23 := rfl, h24 := rfl, h26 := rfl, h27 := rfl, h28 := rfl, h30 := rfl, h100 := rfl, o101 := rfl, o104 := rfl, h36 := rfl, h37 := rfl, h38 := rfl, h39 := rfl, h40 := rfl, h41 := rfl, h42 := rfl, h46 := rfl, h47 := rfl, h48 := rfl, h49 := rfl, h63 := rfl, h115 := rfl, h117 := rfl, h118 := rfl, h119 := rfl, h120 := rfl, o116 := rfl, o122 := rfl, h43 := rfl, h44 := rfl, h45 := rfl, h50 := rfl, h121 := rfl, h7 := rfl, h8 := rfl, h9 := rfl }
instance : Inhabited Act := ⟨(0, ⟨#[]⟩, 0, 0)⟩
theorem encAct_atom (x : Act) : ∀ v ∈ encAct x, atom v = true := by intro v hv; simp [encAct] at hv; rcases hv with rfl | rfl | rfl | rfl <;> rfl
theorem c65 : Try.prog.cellsOf 65 = 4 := by kernel_rfl
theorem c2 : Try.prog.cellsOf 2 = 1 := by kernel_rfl
theorem c3 : Try.prog.cellsOf 3 = 1 := by kernel_rfl
theorem c9 : Try.prog.cellsOf 9 = 1 := by kernel_rfl
section
variable {H : Type} {enc : TypeId × Value → H} {w : World} {held : Bool} {sp : Nat → Bool} {base : Nat}
theorem decAct (m : Nat) (cs : List Value) (y : DataW H × List MemPlace) (h : DataW.trod enc Try.prog w base sp held m 65 cs = some y) : ∃ z : Act, cs = encAct z := by
  obtain ⟨ys, n, _, rfl, hl, hlen, hfl⟩ := DataW.trod_struct Try.underlying65 h
  rw [c65] at hl
  match cs, hl with
  | [u0, u1, u2, u3], _ =>
    have one : ∀ i, i < 4 → ∃ y, ys[i]? = some y := fun i hi => ⟨ys[i]'(by rw [hlen]; exact hi), List.getElem?_eq_getElem _⟩
    have g0 := hfl 0 _ rfl
    have g1 := hfl 1 _ rfl
    have g2 := hfl 2 _ rfl
    have g3 := hfl 3 _ rfl
    obtain ⟨y0, e0⟩ := one 0 (by omega)
    obtain ⟨y1, e1⟩ := one 1 (by omega)
    obtain ⟨y2, e2⟩ := one 2 (by omega)
    obtain ⟨y3, e3⟩ := one 3 (by omega)
    rw [e0] at g0
    rw [e1] at g1
    rw [e2] at g2
    rw [e3] at g3
    obtain ⟨a, a0, _⟩ := DataW.trod_int Try.underlying3 g0
    obtain ⟨s, a1, _⟩ := DataW.trod_string Try.underlying9 g1
    obtain ⟨b, a2, _⟩ := DataW.trod_int Try.underlying3 g2
    obtain ⟨c, a3, _⟩ := DataW.trod_int Try.underlying2 g3
    simp [c2, c3, c9] at a0 a1 a2 a3
    subst a0 a1 a2 a3
    exact ⟨(a, s, b, c), rfl⟩
end
end Go.Proofs.Ytongccpmdndcgaa.Tab
end
