/- Texts of this proof, gathered. What each part says stands at its head; conditions: none but those that its theorems name. -/
import Derived.Test.YtongccpmdndcgaaTab
/- Tables: Sweep. -/
section
set_option linter.all false
namespace Go.Proofs.Ytongccpmdndcgaa.Tab
open Go Go.AE Go.Proofs.Ytongccpmdndcgaa.Alm Go.Sort Go.Proofs
set_option maxRecDepth 100000
set_option maxHeartbeats 1000000
attribute [local irreducible] Go.AE.Tr.put Go.AE.Tr.get
variable {gs : List Nat} {orc : Orc} {n : Nat} {σ : AHeap} {Q : Value × AHeap → Prop}
variable {p room : Nat} {F : List Nat} {T : List E} {ref : Bool}

def sweepT (T : List E) (gone : E → Bool) : List E := T.filter fun e => !e.2.2.2 && gone e
def keptT (T : List E) (gone : E → Bool) : List E := T.filter fun e => e.2.2.2 || !gone e
theorem kept_ks (h : KS T) (g : E → Bool) : KS (keptT T g) := h.sublist List.filter_sublist
/-- The keys of what goes. -/
def keysOf (D : List E) : List Al := D.map fun e => (e.1, e.2.2.1)
theorem less_keys (h : KS T) (g : E → Bool) : lessT T (keysOf (sweepT T g)) = keptT T g := by
  refine List.filter_congr fun e he => ?_
  cases hs : (!e.2.2.2 && g e) with
  | true =>
    have h1 : e ∈ sweepT T g := List.mem_filter.2 ⟨he, hs⟩
    have h2 : ((keysOf (sweepT T g)).any fun x => decide (x.1 = e.1)) = true := List.any_eq_true.2 ⟨(e.1, e.2.2.1), List.mem_map.2 ⟨e, h1, rfl⟩, by simp⟩
    rw [h2]
    simp only [Bool.and_eq_true, Bool.not_eq_true'] at hs
    simp [hs.1, hs.2]
  | false =>
    have h2 : ((keysOf (sweepT T g)).any fun x => decide (x.1 = e.1)) = false := by
      rw [List.any_eq_false]
      intro x hx
      obtain ⟨y, hy, rfl⟩ := List.mem_map.1 hx
      obtain ⟨hy1, hy2⟩ := List.mem_filter.1 hy
      simp only [decide_eq_true_eq]
      intro q
      have e1 := getE_mem h.nd hy1
      have e2 := getE_mem h.nd he
      rw [q, e2] at e1
      rw [← Option.some.inj e1, hs] at hy2
      cases hy2
    rw [h2]
    cases h3 : e.2.2.2 <;> cases h4 : g e <;> simp [h3, h4] at hs ⊢
theorem sweep_run (f : FreeU orc) (h : TAt σ p F T room ref) (hn : 1024 < n) {gv : Value} {gone : E → Bool}
    (hg : ∀ e ∈ T, ∀ (σ1 : AHeap) (Q' : Value × AHeap → Prop), Same σ σ1 F → (∀ σ2, Same σ1 σ2 [] → Q' (.bool (gone e), σ2)) → W (callV Try.prog (acall Try.prog gs orc (n + 12)) gv [enV e] σ1) Q')
    (hQ : ∀ σ' v, TAt σ' p F (keptT T gone) room ref → SlAt σ' 69 4 encE v (sweepT T gone) → (∀ b ∈ blks v, σ.next ≤ b) → Same σ σ' F → Q (v, σ')) :
    W (acall Try.prog gs orc (n + 13) 49 [pt p, gv] σ) Q := by
  have hlo := h.low
  have h0 := h
  have hal := h.al_len
  rw [W_start (m := 32) (keep := []) Try.func49 rfl (by kernel_rfl) (by kernel_rfl) (by first | rfl | assumption | exact f.h49) (by rfl)]
  simp (maxSteps := 2000000) only [B0, B1, B2, B3, B4, B5, B6, B7, Gd, extV, Nat.reduceLT, Nat.reduceEqDiff, Nat.reduceBEq, Nat.reduceAdd, Nat.reduceSub, Nat.reduceMul, ↓reduceIte, reduceCtorEq, if_true, if_false, ite_true, ite_false, Int.reduceLT, Int.reduceLE, ptr, callV_func Try.enters_37, Try.len_66, Try.ia_66, Try.ld_69, allocV_zero Try.zero_69, Try.st_69, Try.fa_69_3, Try.ld_4, Try.fa_69_0, Try.ld_9, callV_func Try.enters_120, rs_tmp (show Try.f49.results = #[.tmp 4] from rfl)]
  refine all_t f h (n := n + 9) (by omega) fun σ1 va hva hba hS1 => ?_
  have h1 := h.same hS1 nofun
  obtain ⟨⟨m, pa, Fa, M, hp, hM, rfl⟩, hks, hok, hlen, hrm⟩ := h1
  have hfl := hp.al.low
  have hfl0 : ∀ b ∈ Fa, b < σ.next := fun b hb => hlo b (by simp [hb])
  have hml0 : m < σ.next := hlo m (by simp)
  have hpl0 : p < σ.next := hlo p (by simp)
  have hn1 := hS1.next
  obtain ⟨a, c, rfl, hac⟩ := hva.len
  simp (maxSteps := 2000000) only [B0, B1, B2, B3, B4, B5, B6, B7, Gd, extV, Nat.reduceLT, Nat.reduceEqDiff, Nat.reduceBEq, Nat.reduceAdd, Nat.reduceSub, Nat.reduceMul, ↓reduceIte, reduceCtorEq, if_true, if_false, ite_true, ite_false, Int.reduceLT, Int.reduceLE, ptr, callV_func Try.enters_37, Try.len_66, Try.ia_66, Try.ld_69, allocV_zero Try.zero_69, Try.st_69, Try.fa_69_3, Try.ld_4, Try.fa_69_0, Try.ld_9, callV_func Try.enters_120, rs_tmp (show Try.f49.results = #[.tmp 4] from rfl)]
  refine W_inv (fun k fr σ' => ∃ (t : Tr Value) (j : Nat) (v : Value) (M' : Prs), fr = ⟨32, t⟩ ∧ t.get 0 = some (pt p) ∧ t.get 1 = some gv ∧ t.get 5 = some v ∧ t.get 9 = some (.slice a T.length c) ∧ t.get 10 = some (.int .i64 (T.length : Int)) ∧ t.get 11 = some (.int .i64 (j : Int)) ∧ k + j = T.length ∧ TabP σ' p m pa Fa M' (alS (lessT T (keysOf (sweepT (T.take j) gone)))) room ref ∧ MapE M' (lessT T (keysOf (sweepT (T.take j) gone))) ∧ SlAt σ' 69 4 encE v (sweepT (T.take j) gone) ∧ (∀ b ∈ blks v, σ1.next ≤ b) ∧ Same σ1 σ' (m :: Fa)) T.length (by omega)
    ⟨_, 0, .slice none 0 0, M, rfl, by simp [get_put, get_args], by simp [get_put, get_args], by simp [get_put], by simp [get_put], by simp [get_put], by simp [get_put], rfl, by rw [List.take_zero, show keysOf (sweepT [] gone) = [] from rfl, less_nil]; exact hp, by rw [List.take_zero, show keysOf (sweepT [] gone) = [] from rfl, less_nil]; exact hM, .inl ⟨rfl, by rw [List.take_zero]; rfl⟩, nofun, .refl _ _⟩ ?_
  rintro k fr σ2 ⟨t, j, v, M2, rfl, t0, t1, t5, t9, t10, t11, hk, hp2, hM2, hv, hbv, hS2⟩
  have hn2 := hS2.next
  by_cases hj : j < T.length
  · have hx := List.getElem?_eq_getElem hj
    have hxm := List.getElem_mem hj
    have htk : T.take (j + 1) = T.take j ++ [T[j]] := by rw [List.take_add_one, hx]; rfl
    have hnk : ∀ e ∈ T.take j, e.1 ≠ T[j].1 := fun e he w => by
      have h2 : KS (T.take (j + 1)) := hks.sublist (List.take_sublist _ _)
      rw [htk] at h2
      unfold KS at h2
      have := (List.pairwise_append.1 h2).2.2 e he T[j] (by simp)
      rw [w, sLt_irr] at this
      cases this
    generalize T[j] = x at hx hxm htk hnk
    have hsw : sweepT (T.take (j + 1)) gone = sweepT (T.take j) gone ++ sweepT [x] gone := by rw [htk]; unfold sweepT; rw [List.filter_append]
    have hva2 := hva.same hS2 (fun b hb q => by have := hba b hb; simp at q; rcases q with q | q; omega; have := hfl0 _ q; omega)
    obtain ⟨b, o, cap, g0, e0, hb, hbl, hr⟩ := hva2.at_ hx
    injection e0 with e0 _ e3
    subst e0 e3
    have hld := hr.ldCells encEOk hx
    obtain ⟨σ3, σ4, e3, t4, hS4, v4, hn4, _⟩ := AE.newVar σ2 69 (encE zE) (encE x) rfl (encEOk.single x)
    have l4 : ldCells σ4 σ2.next 0 4 = some (encE x) := v4.ldCells
    have x3 : ld σ4 σ2.next 3 = some (.bool x.2.2.2) := v4.ld rfl
    simp only [encE] at hld e3 t4 l4
    have hp4 := hp2.same0 hS4
    have hj' : (j : Int) < (T.length : Int) := by omega
    have hw1 : IntKind.i64.wrap ((j : Int) + 1) = ((j + 1 : Nat) : Int) := wrap64 (by omega) (by omega)
    have hS04 : Same σ σ4 (p :: m :: Fa) := ((hS1.app hS2).app hS4).old fun b hb => by simp at hb; left; simp; rcases hb with hb | hb; exact .inr (.inl hb); exact .inr (.inr hb)
    cases hst : x.2.2.2 with
    | true =>
      rw [hst] at x3 hld t4 l4
      have hs1 : sweepT [x] gone = [] := by unfold sweepT; simp [hst]
      rw [hs1, List.append_nil] at hsw
      simp (maxSteps := 2000000) only [B0, B1, B2, B3, B4, B5, B6, B7, Gd, extV, Nat.reduceLT, Nat.reduceEqDiff, Nat.reduceBEq, Nat.reduceAdd, Nat.reduceSub, Nat.reduceMul, ↓reduceIte, reduceCtorEq, if_true, if_false, ite_true, ite_false, Int.reduceLT, Int.reduceLE, ptr, callV_func Try.enters_37, Try.len_66, Try.ia_66, Try.ld_69, allocV_zero Try.zero_69, Try.st_69, Try.fa_69_3, Try.ld_4, Try.fa_69_0, Try.ld_9, callV_func Try.enters_120, x3, t0,  t1,  t5,  t9,  t10,  t11,  hj',  hj,  hld,  e3,  t4,  Value.cells,  List.size_toArray,  l4,  hw1,  KInv_normal, rs_tmp (show Try.f49.results = #[.tmp 4] from rfl)]
      exact ⟨T.length - (j + 1), by omega, _, j + 1, v, M2, rfl, by simp [get_put, t0], by simp [get_put, t1], by simp [get_put, t5], by simp [get_put, t9], by simp [get_put, t10], by simp [get_put], by omega, by rw [hsw]; exact hp4, by rw [hsw]; exact hM2, by rw [hsw]; exact hv.same hS4 nofun, hbv, (hS2.app hS4).old fun b hb => by simp only [List.append_nil] at hb; exact .inl hb⟩
    | false =>
      have hg4 := hg x hxm σ4
      unfold enV at hg4
      rw [hst] at x3 hld t4 l4 hg4
      simp (maxSteps := 2000000) only [B0, B1, B2, B3, B4, B5, B6, B7, Gd, extV, Nat.reduceLT, Nat.reduceEqDiff, Nat.reduceBEq, Nat.reduceAdd, Nat.reduceSub, Nat.reduceMul, ↓reduceIte, reduceCtorEq, if_true, if_false, ite_true, ite_false, Int.reduceLT, Int.reduceLE, ptr, callV_func Try.enters_37, Try.len_66, Try.ia_66, Try.ld_69, allocV_zero Try.zero_69, Try.st_69, Try.fa_69_3, Try.ld_4, Try.fa_69_0, Try.ld_9, callV_func Try.enters_120, x3, t0,  t1,  t5,  t9,  t10,  t11,  hj',  hj,  hld,  e3,  t4,  Value.cells,  List.size_toArray,  l4,  hw1,  KInv_normal, rs_tmp (show Try.f49.results = #[.tmp 4] from rfl)]
      refine hg4 _ hS04 fun σ5 hS5 => ?_
      have hp5 := hp4.same0 hS5
      have v5 := v4.same hS5 nofun
      have x0 : ld σ5 σ2.next 0 = some (.string x.1) := v5.ld rfl
      have hv5 := (hv.same hS4 nofun).same hS5 nofun
      have hn5 := hS5.next
      cases hgo : gone x with
      | false =>
        have hs1 : sweepT [x] gone = [] := by unfold sweepT; simp [hgo]
        rw [hs1, List.append_nil] at hsw
        simp (maxSteps := 2000000) only [B0, B1, B2, B3, B4, B5, B6, B7, Gd, extV, Nat.reduceLT, Nat.reduceEqDiff, Nat.reduceBEq, Nat.reduceAdd, Nat.reduceSub, Nat.reduceMul, ↓reduceIte, reduceCtorEq, if_true, if_false, ite_true, ite_false, Int.reduceLT, Int.reduceLE, ptr, callV_func Try.enters_37, Try.len_66, Try.ia_66, Try.ld_69, allocV_zero Try.zero_69, Try.st_69, Try.fa_69_3, Try.ld_4, Try.fa_69_0, Try.ld_9, callV_func Try.enters_120, t0,  t1,  t5,  t9,  t10,  t11,  hj',  hj,  hld,  e3,  t4,  Value.cells,  List.size_toArray,  l4,  hw1,  KInv_normal, rs_tmp (show Try.f49.results = #[.tmp 4] from rfl)]
        exact ⟨T.length - (j + 1), by omega, _, j + 1, v, M2, rfl, by simp [get_put, t0], by simp [get_put, t1], by simp [get_put, t5], by simp [get_put, t9], by simp [get_put, t10], by simp [get_put], by omega, by rw [hsw]; exact hp5, by rw [hsw]; exact hM2, by rw [hsw]; exact hv5, hbv, ((hS2.app hS4).app hS5).old fun b hb => by simp only [List.append_nil] at hb; exact .inl hb⟩
      | true =>
        have hs1 : sweepT [x] gone = [x] := by unfold sweepT; simp [hgo, hst]
        rw [hs1] at hsw
        have hgx : getE x.1 (lessT T (keysOf (sweepT (T.take j) gone))) = some x := by
          rw [less_get hks]
          · exact getE_mem hks.nd hxm
          · intro y hy
            obtain ⟨z, hz, rfl⟩ := List.mem_map.1 hy
            exact hnk z (List.mem_filter.1 hz).1
        have hlk := less_ks hks (keysOf (sweepT (T.take j) gone))
        have hll : (lessT T (keysOf (sweepT (T.take j) gone))).length ≤ T.length := List.length_filter_le _ _
        have hal2 := alS_len hlk
        have hko : keysOf (sweepT (T.take (j + 1)) gone) = keysOf (sweepT (T.take j) gone) ++ [(x.1, x.2.2.1)] := by rw [hsw]; unfold keysOf; rw [List.map_append]; rfl
        simp (maxSteps := 2000000) only [B0, B1, B2, B3, B4, B5, B6, B7, Gd, extV, Nat.reduceLT, Nat.reduceEqDiff, Nat.reduceBEq, Nat.reduceAdd, Nat.reduceSub, Nat.reduceMul, ↓reduceIte, reduceCtorEq, if_true, if_false, ite_true, ite_false, Int.reduceLT, Int.reduceLE, ptr, callV_func Try.enters_37, Try.len_66, Try.ia_66, Try.ld_69, allocV_zero Try.zero_69, Try.st_69, Try.fa_69_3, Try.ld_4, Try.fa_69_0, Try.ld_9, callV_func Try.enters_120, x0, t0,  t1,  t5,  t9,  t10,  t11,  hj',  hj,  hld,  e3,  t4,  Value.cells,  List.size_toArray,  l4,  hw1,  KInv_normal, rs_tmp (show Try.f49.results = #[.tmp 4] from rfl)]
        refine takes_run f.toFreeT hp5 x.1 (e := x) (by rw [hM2.get, hgx]; rfl) (by omega) (by omega) fun σ6 hp6 hS6 => ?_
        rw [alS_del hlk] at hp6
        have hM6 := hM2.del hp5.mp.nodup hlk x.1
        have hdel := less_del (T := T) (D := keysOf (sweepT (T.take j) gone)) (x := (x.1, x.2.2.1))
        simp only at hdel
        rw [hdel, ← hko] at hM6 hp6
        have hvv : ∀ b ∈ blks v, b ∉ m :: Fa := fun b hb q => by have := hbv b hb; simp at q; rcases q with q | q; omega; have := hfl0 _ q; omega
        have hv6 := hv5.same hS6 hvv
        obtain ⟨av, cv, rfl, hcv⟩ := hv6.len
        have hsl : (sweepT (T.take j) gone).length ≤ 1024 := by have h1 := List.length_filter_le (fun e : E => !e.2.2.2 && gone e) (T.take j); have h2 := List.length_take_le j T; unfold sweepT; have : (T.take j).length ≤ T.length := by rw [List.length_take]; omega
                                                                omega
        obtain ⟨σ7, v8, σ8, hbs, hap, hv8, hS8, hb8, hS7, hn8⟩ := append_one encEOk Try.underlying66 Try.underlying66 Try.elem_69 rfl (by decide) hv6 x (xv := .agg #[.string x.1, .int .i64 x.2.1, .int .i64 x.2.2.1, .bool x.2.2.2]) rfl (by omega)
        have hn6 := hS6.next
        simp (maxSteps := 2000000) only [B0, B1, B2, B3, B4, B5, B6, B7, Gd, extV, Nat.reduceLT, Nat.reduceEqDiff, Nat.reduceBEq, Nat.reduceAdd, Nat.reduceSub, Nat.reduceMul, ↓reduceIte, reduceCtorEq, if_true, if_false, ite_true, ite_false, Int.reduceLT, Int.reduceLE, ptr, callV_func Try.enters_37, Try.len_66, Try.ia_66, Try.ld_69, allocV_zero Try.zero_69, Try.st_69, Try.fa_69_3, Try.ld_4, Try.fa_69_0, Try.ld_9, callV_func Try.enters_120, enV,  hbs,  hap, t0,  t1,  t5,  t9,  t10,  t11,  hj',  hj,  hld,  e3,  t4,  Value.cells,  List.size_toArray,  l4,  hw1,  KInv_normal, rs_tmp (show Try.f49.results = #[.tmp 4] from rfl)]
        refine ⟨T.length - (j + 1), by omega, _, j + 1, v8, _, rfl, by simp [get_put, t0], by simp [get_put, t1], by simp [get_put], by simp [get_put, t9], by simp [get_put, t10], by simp [get_put], by omega, hp6.same hS8 (fun q => by have := hbv _ q; omega) (fun q => by have := hbv _ q; omega) (fun b hb q => by have := hbv _ q; have := hfl0 b hb; omega), hM6, by rw [hsw]; exact hv8, fun b hb => ?_, ?_⟩
        · rcases hb8 b hb with w | w
          · exact hbv b w
          · omega
        · exact ((((hS2.app hS4).app hS5).app hS6).app hS8).old fun b hb => by
            simp only [List.append_nil, List.mem_append] at hb
            rcases hb with (hb | hb) | hb
            · exact .inl hb
            · exact .inl hb
            · exact .inr (hbv b hb)
  · have hj' : ((j : Int) < (T.length : Int)) = False := eq_false (by omega)
    have hje : T.take j = T := List.take_of_length_le (by omega)
    rw [hje, less_keys hks] at hM2 hp2
    rw [hje] at hv
    simp (maxSteps := 2000000) only [B0, B1, B2, B3, B4, B5, B6, B7, Gd, extV, Nat.reduceLT, Nat.reduceEqDiff, Nat.reduceBEq, Nat.reduceAdd, Nat.reduceSub, Nat.reduceMul, ↓reduceIte, reduceCtorEq, if_true, if_false, ite_true, ite_false, Int.reduceLT, Int.reduceLE, ptr, callV_func Try.enters_37, Try.len_66, Try.ia_66, Try.ld_69, allocV_zero Try.zero_69, Try.st_69, Try.fa_69_3, Try.ld_4, Try.fa_69_0, Try.ld_9, callV_func Try.enters_120, t0,  t1,  t5,  t9,  t10,  t11,  hj', rs_tmp (show Try.f49.results = #[.tmp 4] from rfl)]
    refine hQ σ2 v ⟨⟨m, pa, Fa, M2, hp2, hM2, rfl⟩, kept_ks hks _, fun e he => hok e (List.mem_filter.1 he).1, Nat.le_trans (List.length_filter_le _ _) hlen, hrm⟩ hv (fun b hb => by have := hbv b hb; omega) ((hS1.app hS2).old fun b hb => ?_)
    simp at hb ⊢
    rcases hb with hb | hb
    · exact .inl (.inr (.inl hb))
    · exact .inl (.inr (.inr hb))
end Go.Proofs.Ytongccpmdndcgaa.Tab
end
