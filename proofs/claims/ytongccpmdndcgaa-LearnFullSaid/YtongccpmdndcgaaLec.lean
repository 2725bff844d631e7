/- Texts of this proof, gathered. What each part says stands at its head; conditions: none but those that its theorems name. -/
import Derived.Test.YtongccpmdndcgaaLeb
/- Plain laws of stations that fill all room. -/
section
set_option linter.all false
namespace Go.Proofs.Ytongccpmdndcgaa.Lrn
open Go Go.AE Go.Proofs.Ytongccpmdndcgaa.Alm Go.Proofs.Ytongccpmdndcgaa.Tab Go.Sort Go.Proofs
set_option maxRecDepth 100000
variable {T : List E}

/-- The address of a number. -/
def nM (k : Nat) : List Nat := macL (2199023255552 + k)
theorem nM_eq {k : Nat} (h : k < 65536) : nM k = [2, 0, 0, 0, k / 256, k % 256] := by
  show [(2199023255552 + k) / 1099511627776 % 256, (2199023255552 + k) / 4294967296 % 256, (2199023255552 + k) / 16777216 % 256, (2199023255552 + k) / 65536 % 256, (2199023255552 + k) / 256 % 256, (2199023255552 + k) / 1 % 256] = _
  have e0 : (2199023255552 + k) / 1099511627776 % 256 = 2 := by omega
  have e1 : (2199023255552 + k) / 4294967296 % 256 = 0 := by omega
  have e2 : (2199023255552 + k) / 16777216 % 256 = 0 := by omega
  have e3 : (2199023255552 + k) / 65536 % 256 = 0 := by omega
  have e4 : (2199023255552 + k) / 256 % 256 = k / 256 := by omega
  have e5 : (2199023255552 + k) / 1 % 256 = k % 256 := by omega
  rw [e0, e1, e2, e3, e4, e5]
theorem nM_sta {k : Nat} (h : k < 65536) : Sta 1 (nM k) := ⟨macL_mac _, by unfold okDom; omega, ⟨2, by rw [nM_eq h]; rfl, rfl⟩, by rw [nM_eq h]; simp⟩
abbrev kN (k : Nat) : ByteArray := keyB 1 (nM k)
theorem kN_size {k : Nat} : (kN k).size = 8 := keyB_size (macL_mac _).len
theorem kN_lt {j k : Nat} (hk : k < 65536) (h : j < k) : sLt (kN j) (kN k) = true := by
  have e : ∀ i, i < 65536 → (kN i).data.toList = [0, 1, 2, 0, 0, 0, UInt8.ofNat (i / 256), UInt8.ofNat (i % 256)] := fun i hi => by
    show (([1 / 256, 1 % 256] ++ nM i).map UInt8.ofNat) = _
    rw [nM_eq hi]; rfl
  have lt8 : ∀ {a b : Nat}, a < 256 → b < 256 → a < b → UInt8.ofNat a < UInt8.ofNat b := fun {a b} ha hb hab => by
    rw [UInt8.lt_iff_toNat_lt, UInt8.toNat_ofNat_of_lt' (by simpa using ha), UInt8.toNat_ofNat_of_lt' (by simpa using hb)]; exact hab
  rw [sLt_iff, e j (by omega), e k hk]
  have cl : ∀ (a : UInt8) (x y : List UInt8), x < y → (a :: x) < (a :: y) := fun a x y h => List.cons_lt_cons_iff.2 (.inr ⟨rfl, h⟩)
  refine cl _ _ _ (cl _ _ _ (cl _ _ _ (cl _ _ _ (cl _ _ _ (cl _ _ _ ?_)))))
  by_cases hq : j / 256 = k / 256
  · rw [hq]
    exact cl _ _ _ (List.cons_lt_cons_iff.2 (.inl (lt8 (by omega) (by omega) (by omega))))
  · exact List.cons_lt_cons_iff.2 (.inl (lt8 (by omega) (by omega) (by omega)))
theorem kN_ne {j k : Nat} (hj : j < 65536) (hk : k < 65536) (h : j ≠ k) : kN j ≠ kN k := fun e => by
  rcases Nat.lt_or_gt_of_ne h with w | w
  · have := kN_lt hk w; rw [e, sLt_irr] at this; cases this
  · have := kN_lt hj w; rw [e, sLt_irr] at this; cases this
/-- The entry of the j-th station. -/
def entN (many : Nat) (once : Bool) (j : Nat) : E := if j < many then (kN j, 1, 0, true) else (kN j, 1, (if once then 0 else (j : Int)) + 1000, false)
theorem entN_key {many : Nat} {once : Bool} {j : Nat} : (entN many once j).1 = kN j := by unfold entN; split <;> rfl
def tabN (many : Nat) (once : Bool) (j : Nat) : List E := (List.range j).map (entN many once)
theorem tabN_len {many : Nat} {once : Bool} {j : Nat} : (tabN many once j).length = j := by simp [tabN]
theorem tabN_succ {many : Nat} {once : Bool} {j : Nat} : tabN many once (j + 1) = tabN many once j ++ [entN many once j] := by simp [tabN, List.range_succ]
theorem tabN_mem {many : Nat} {once : Bool} {j : Nat} {e : E} : e ∈ tabN many once j ↔ ∃ i < j, entN many once i = e := by simp [tabN]
theorem tabN_get {many : Nat} {once : Bool} {j k : Nat} (hj : j ≤ k) (hk : k < 65536) : getE (kN k) (tabN many once j) = none := by
  rw [getE_none]
  intro e he
  obtain ⟨i, hi, rfl⟩ := tabN_mem.1 he
  rw [entN_key]
  exact kN_ne (by omega) hk (by omega)
theorem insE_last {e : E} : ∀ {T : List E}, (∀ y ∈ T, sLt y.1 e.1 = true) → insE e T = T ++ [e]
  | [], _ => rfl
  | y :: T, h => by
    rw [insE, sLt_asymm (h y (by simp))]
    simp only [Bool.false_eq_true, if_false, List.cons_append]
    rw [insE_last fun z hz => h z (by simp [hz])]
theorem putE_last {e : E} {T : List E} (h : ∀ y ∈ T, sLt y.1 e.1 = true) : putE e T = T ++ [e] := by
  unfold putE
  rw [delE_not (getE_none.2 fun y hy w => by have := h y hy; rw [w, sLt_irr] at this; cases this), insE_last h]
theorem tabN_put {many : Nat} {once : Bool} {j : Nat} (hj : j < 65536) {e : E} (he : e.1 = kN j) : putE e (tabN many once j) = tabN many once j ++ [e] := putE_last fun y hy => by
  obtain ⟨i, hi, rfl⟩ := tabN_mem.1 hy
  rw [entN_key, he]
  exact kN_lt hj hi
theorem tabN_ks {many : Nat} {once : Bool} {j : Nat} (hj : j < 65536) : KS (tabN many once j) := by
  unfold KS tabN
  rw [List.pairwise_map]
  refine (List.pairwise_lt_range (n := j)).imp_of_mem fun {a b} ha hb h => ?_
  rw [entN_key, entN_key]
  exact kN_lt (by have := List.mem_range.1 hb; omega) h
/-- A round: a static one. -/
theorem round_fix {many : Nat} {once : Bool} {j : Nat} (hj : j < 256) (hm : j < many) : fixT (tabN many once j) 256 false (kN j) 1 = (tabN many once (j + 1), zE, 0) := by
  rw [fixT_room kN_size (by rw [tabN_len]; exact hj), tabN_put (by omega) rfl, tabN_succ]
  unfold entN
  rw [if_pos hm]
theorem round_see {many : Nat} {once : Bool} {j : Nat} (hj : j < 256) (hm : j < many) {now : Int} : seeT (tabN many once (j + 1)) 1000 (kN j) 1 now = (tabN many once (j + 1), 0) := by
  have hg : getE (kN j) (tabN many once (j + 1)) = some (entN many once j) := by
    rw [← entN_key (many := many) (once := once)]
    exact getE_mem (tabN_ks (by omega)).nd (tabN_mem.2 ⟨j, by omega, rfl⟩)
  unfold entN at hg
  rw [if_pos hm] at hg
  rw [seeT_static hg rfl]
  simp
/-- A round: one that is learnt. -/
theorem round_new {many : Nat} {once : Bool} {j : Nat} (hj : j < 256) (hm : ¬ j < many) : seeT (tabN many once j) 1000 (kN j) 1 (if once then 0 else (j : Int)) = (tabN many once (j + 1), 1) := by
  have hg := tabN_get (many := many) (once := once) (Nat.le_refl j) (show j < 65536 by omega)
  have hn : (0 : Int) ≤ (if once then 0 else (j : Int)) ∧ (if once then 0 else (j : Int)) ≤ 256 := by split <;> omega
  rw [seeT_room kN_size (by rw [hg]; rfl) (by omega) (by omega) (by omega) (by rw [tabN_len]; exact hj), hg, tabN_put (by omega) rfl, tabN_succ]
  unfold entN
  rw [if_neg hm]
/-- What is due first. -/
theorem first_al {many : Nat} {once : Bool} (hm : many < 256) : ∃ l, alS (tabN many once 256) = (kN many, (if once then 0 else (many : Int)) + 1000) :: l := by
  have hks := tabN_ks (many := many) (once := once) (j := 256) (by omega)
  have hin : (kN many, (if once then 0 else (many : Int)) + 1000) ∈ alS (tabN many once 256) := (alS_mem hks).2 ⟨entN many once many, tabN_mem.2 ⟨many, hm, rfl⟩, by unfold entN; rw [if_neg (by omega)], by unfold entN; rw [if_neg (by omega)]⟩
  cases hA : alS (tabN many once 256) with
  | nil => rw [hA] at hin; cases hin
  | cons x l =>
    refine ⟨l, ?_⟩
    rw [hA] at hin
    rcases List.mem_cons.1 hin with e | hl
    · rw [e]
    · exfalso
      have hsr := (alS_of hks).srt
      rw [hA] at hsr
      have hlt := (List.pairwise_cons.1 hsr).1 _ hl
      obtain ⟨e, he, hs, rfl⟩ := (alS_mem hks).1 (show x ∈ alS (tabN many once 256) by rw [hA]; simp)
      obtain ⟨i, hi, rfl⟩ := tabN_mem.1 he
      by_cases him : i < many
      · unfold entN at hs; rw [if_pos him] at hs; cases hs
      · unfold entN at hlt
        rw [if_neg him, lt_iff] at hlt
        simp only at hlt
        by_cases hie : i = many
        · subst hie
          rw [sLt_irr] at hlt
          rcases hlt with w | ⟨_, w⟩
          · omega
          · cases w
        · have h1 := kN_lt (j := many) (k := i) (by omega) (by omega)
          rw [sLt_asymm h1] at hlt
          rcases hlt with w | ⟨_, w⟩
          · cases once <;> simp at w <;> omega
          · cases w
theorem no_al {once : Bool} : alS (tabN 256 once 256) = [] := by
  have hks := tabN_ks (many := 256) (once := once) (j := 256) (by omega)
  cases hA : alS (tabN 256 once 256) with
  | nil => rfl
  | cons x l =>
    obtain ⟨e, he, hs, _⟩ := (alS_mem hks).1 (show x ∈ alS (tabN 256 once 256) by rw [hA]; simp)
    obtain ⟨i, hi, rfl⟩ := tabN_mem.1 he
    unfold entN at hs
    rw [if_pos hi] at hs
    cases hs
/-- The end: no room. -/
theorem full_see {many : Nat} {once : Bool} (hm : many ≤ 256) : ∃ T, (seeT (tabN many once 256) 1000 (kN 1000) 2 500).1 = T ∧ (seeT (tabN many once 256) 1000 (kN 1000) 2 500).2 = (if many < 256 then 1 else 0) ∧ (getE (kN 1000) T).isSome = decide (many < 256) ∧ getE (kN many) T = none ∧ KS T ∧ T.length = 256 ∧
    ∃ U c, fixT T 256 false (kN 2000) 3 = (U, c) ∧ (c.2 = 7 ↔ many = 256) ∧ U.length = 256 := by
  have hks := tabN_ks (many := many) (once := once) (j := 256) (by omega)
  have hg := tabN_get (many := many) (once := once) (j := 256) (k := 1000) (by omega) (by omega)
  have hg2 := tabN_get (many := many) (once := once) (j := 256) (k := 2000) (by omega) (by omega)
  have hnb : ¬ bad (kN 1000) 1500 := not_bad kN_size (by omega) (by omega)
  have hnb2 : ¬ bad (kN 2000) 0 := not_bad kN_size (by omega) (by omega)
  have hput : putT (tabN many once 256) 256 false (kN 1000) 2 1500 = layT (tabN many once 256) 256 false (kN 1000, 2, 1500, false) := by
    unfold putT; rw [if_neg hnb, hg, if_neg (by simp)]
  have hsee : seeT (tabN many once 256) 1000 (kN 1000) 2 500 = ((layT (tabN many once 256) 256 false (kN 1000, 2, 1500, false)).1, if (layT (tabN many once 256) 256 false (kN 1000, 2, 1500, false)).2.2 = 0 then 1 else 0) := by
    unfold seeT
    rw [hg, if_neg (by simp), if_neg (by omega), if_neg (by omega), show (500 : Int) + 1000 = 1500 by omega, hput]
  have hlen : (tabN many once 256).length = 256 := tabN_len
  by_cases hlt : many < 256
  · obtain ⟨l, hA⟩ := first_al (many := many) (once := once) hlt
    have hlay : layT (tabN many once 256) 256 false (kN 1000, 2, 1500, false) = (putE (kN 1000, 2, 1500, false) (delE (kN many) (tabN many once 256)), (getE (kN many) (tabN many once 256)).getD zE, 0) := by
      unfold layT
      simp only [hA, hg, hlen]
      simp
    rw [hsee, hlay]
    have hkd := hks.del (k := kN many)
    have hgm : (getE (kN many) (tabN many once 256)).isSome = true := by
      have := getE_mem hks.nd (tabN_mem (many := many) (once := once).2 ⟨many, hlt, rfl⟩)
      rw [entN_key] at this
      rw [this]; rfl
    have hdl := delE_len (k := kN many) hks
    rw [hgm] at hdl
    simp only [if_true] at hdl
    have hgd : getE (kN 1000) (delE (kN many) (tabN many once 256)) = none := by rw [getE_del hks]; split; rfl; exact hg
    have hgd2 : getE (kN 2000) (delE (kN many) (tabN many once 256)) = none := by rw [getE_del hks]; split; rfl; exact hg2
    have hpl : (putE (kN 1000, 2, 1500, false) (delE (kN many) (tabN many once 256))).length = 256 := by rw [putE_len hkd, hgd]; simp; omega
    have hpk := putE_ks (e := ((kN 1000, 2, 1500, false) : E)) hkd
    have hgp : getE (kN 1000) (putE ((kN 1000, 2, 1500, false) : E) (delE (kN many) (tabN many once 256))) = some (kN 1000, 2, 1500, false) := by rw [getE_put hkd, if_pos rfl]
    have hgp2 : getE (kN 2000) (putE ((kN 1000, 2, 1500, false) : E) (delE (kN many) (tabN many once 256))) = none := by
      rw [getE_put hkd, if_neg (kN_ne (by omega) (by omega) (by omega))]; exact hgd2
    refine ⟨_, rfl, by simp [hlt], by simp only [hgp]; simp [hlt], ?_, hpk, hpl, ?_⟩
    · rw [getE_put hkd, if_neg (kN_ne (by omega) (by omega) (by omega)), getE_del hks, if_pos rfl]
    · generalize putE ((kN 1000, 2, 1500, false) : E) (delE (kN many) (tabN many once 256)) = V at *
      cases hB : alS V with
      | nil =>
        have := (alS_mem hpk).2 ⟨_, (getE_key hgp).1, rfl, rfl⟩
        rw [hB] at this; cases this
      | cons x l2 =>
        have hlay2 : fixT V 256 false (kN 2000) 3 = (putE (kN 2000, 3, 0, true) (delE x.1 V), (getE x.1 V).getD zE, 0) := by
          unfold fixT
          rw [if_neg hnb2]
          unfold layT
          simp only [hB, hgp2, hpl]
          simp
        obtain ⟨e, he, hs, rfl⟩ := (alS_mem hpk).1 (show x ∈ alS V by rw [hB]; simp)
        have hge := getE_mem hpk.nd he
        have hdl2 := delE_len (k := e.1) hpk
        rw [hge] at hdl2
        simp only [Option.isSome_some, if_true] at hdl2
        refine ⟨_, _, hlay2, by simp; omega, ?_⟩
        rw [putE_len hpk.del, show getE ((kN 2000, (3 : Int), (0 : Int), true) : E).1 (delE e.1 V) = none by rw [getE_del hpk]; split; rfl; exact hgp2]
        simp
        omega
  · obtain rfl : many = 256 := by omega
    have hlay : layT (tabN 256 once 256) 256 false (kN 1000, 2, 1500, false) = (tabN 256 once 256, zE, 7) := by
      unfold layT
      simp only [no_al, hg, hlen]
      simp
    rw [hsee, hlay]
    have hlay2 : fixT (tabN 256 once 256) 256 false (kN 2000) 3 = (tabN 256 once 256, zE, 7) := by
      unfold fixT
      rw [if_neg hnb2]
      unfold layT
      simp only [no_al, hg2, hlen]
      simp
    exact ⟨_, rfl, by simp, by simp only [hg]; simp, tabN_get (by omega) (by omega), hks, hlen, _, _, hlay2, by simp, hlen⟩
end Go.Proofs.Ytongccpmdndcgaa.Lrn
end
/- The law on stations without room: the run. -/
section
set_option linter.all false
namespace Go.Proofs.Ytongccpmdndcgaa.Lrn
open Go Go.AE Go.Proofs.Ytongccpmdndcgaa.Alm Go.Proofs.Ytongccpmdndcgaa.Tab Go.Sort Go.Proofs
set_option maxRecDepth 100000
set_option maxHeartbeats 4000000
attribute [local irreducible] Go.AE.Tr.put Go.AE.Tr.get
variable {gs : List Nat} {orc : Orc} {n : Nat} {σ : AHeap} {Q : Value × AHeap → Prop}

theorem nm_run (f : FreeS orc) {k : Nat} (hk : k < 65536) (hn : 6 < n) (hQ : ∀ σ', Same σ σ' [] → Q (macV (nM k), σ')) : W (acall Try.prog gs orc (n + 2) 71 [.int .i64 (k : Int)] σ) Q := by
  have z0 : ([(.int .u8 (0)), (.int .u8 (0)), (.int .u8 (0)), (.int .u8 (0)), (.int .u8 (0)), (.int .u8 (0))] : List Value) = mcs (macU 0 0) := rfl
  have hw : IntKind.u64.wrap (2199023255552 + (k : Int)) = ((2199023255552 + k : Nat) : Int) := by
    rw [show (2199023255552 : Int) + (k : Int) = ((2199023255552 + k : Nat) : Int) by omega, wrapU64 (by omega)]
  obtain ⟨σ1, e1, hS1, v1, hn1⟩ := AE.oneVar σ 117 (mcs (macU 0 0)) false
  rw [W_start (m := 7) (keep := []) Try.func71 rfl (by kernel_rfl) (by kernel_rfl) (by first | rfl | assumption | exact f.h71) (by rfl)]
  simp (maxSteps := 2000000) only [B0, B1, B2, B3, B4, B5, B6, B7, Gd, extV, Nat.reduceLT, Nat.reduceEqDiff, Nat.reduceBEq, Nat.reduceAdd, Nat.reduceSub, Nat.reduceMul, ↓reduceIte, reduceCtorEq, if_true, if_false, ite_true, ite_false, Int.reduceLT, Int.reduceLE, ptr, allocV_zero Try.zero_117, callV_func Try.enters_72, Try.st_117, Try.ld_117, z0,  Value.cells,  mcs_list,  e1,  conv_int Try.underlying3 Try.underlying126,  wrapU64 (show k < 18446744073709551616 by omega),  hw, rs_c (show Try.f71.results = #[.cell 2 117] from rfl)]
  refine ofm_run f.h72 (x := 2199023255552 + k) (by omega) (by omega) fun σ2 hS2 => ?_
  obtain ⟨σ3, t3, v3, hS3, hn3⟩ := (v1.same hS2 nofun).store (vs' := mcs (nM k)) (by rw [mcs_len, mcs_len, macU_len]; exact macU_len) mcs_single
  have l3 : ldCells σ3 σ.next 0 6 = some (mcs (nM k)) := by have := v3.ldCells; rwa [mcs_len, show (nM k).length = 6 from macU_len] at this
  unfold nM at t3 l3
  simp (maxSteps := 2000000) only [B0, B1, B2, B3, B4, B5, B6, B7, Gd, extV, Nat.reduceLT, Nat.reduceEqDiff, Nat.reduceBEq, Nat.reduceAdd, Nat.reduceSub, Nat.reduceMul, ↓reduceIte, reduceCtorEq, if_true, if_false, ite_true, ite_false, Int.reduceLT, Int.reduceLE, ptr, allocV_zero Try.zero_117, callV_func Try.enters_72, Try.st_117, Try.ld_117, Value.cells,  mcs_list,  mcs_size (show (macL (2199023255552 + k)).length = 6 from macU_len),  t3,  l3, rs_c (show Try.f71.results = #[.cell 2 117] from rfl)]
  exact hQ σ3 (((hS1.app hS2).app hS3).old fun b hb => by simp at hb; exact .inr (by omega))
theorem opt_len (o : Option E) : ((o.map encSt).getD zSt).length = 10 := by cases o <;> rfl
theorem opt_single (o : Option E) : ∀ v ∈ (o.map encSt).getD zSt, single v = true := by
  cases o with
  | none => intro v hv; simp [zSt] at hv; rcases hv with rfl | rfl | rfl | rfl <;> rfl
  | some e => exact encStOk.single e
theorem opt_size (o : Option E) : ((o.map encSt).getD zSt).toArray.size = 10 := by cases o <;> rfl
theorem opt_list (o : Option E) : ((o.map encSt).getD zSt).toArray.toList = (o.map encSt).getD zSt := rfl
theorem full_run (f : FreeS orc) {m0 : Nat} {once : Bool} (hn : 1100 ≤ n) (hQ : ∀ σ', Same σ σ' [] → Q (.bool true, σ')) : W (acall Try.prog gs orc (n + 20) 11 [.int .u16 (m0 : Int), .bool once] σ) Q := by
  obtain ⟨many, hmany, hm⟩ : ∃ many : Nat, m0 % 257 = many ∧ many ≤ 256 := ⟨m0 % 257, rfl, by omega⟩
  have hwm : IntKind.i64.wrap (many : Int) = (many : Int) := wrap64 (by omega) (by omega)
  rw [W_start (m := 143) (keep := []) Try.func11 rfl (by kernel_rfl) (by kernel_rfl) (by first | rfl | assumption | exact f.h11) (by rfl)]
  simp (maxSteps := 2000000) only [B0, B1, B2, B3, B4, B5, B6, B7, Gd, extV, Nat.reduceLT, Nat.reduceEqDiff, Nat.reduceBEq, Nat.reduceAdd, Nat.reduceSub, Nat.reduceMul, ↓reduceIte, reduceCtorEq, if_true, if_false, ite_true, ite_false, Int.reduceLT, Int.reduceLE, ptr, callV_func Try.enters_64, callV_func Try.enters_73, callV_func Try.enters_74, callV_func Try.enters_67, callV_func Try.enters_69, allocV_zero Try.zero_120, Try.st_120, callV_func Try.enters_75, Try.len_109, callV_func Try.enters_70, rs_tmp (show Try.f11.results = #[.tmp 4] from rfl)]
  refine lnew_run (t := 1099511627776) f.toFreeL (by omega) (by omega) fun σ1 s tp F h1 hs1 hF1 hS1 => ?_
  have w1 : LO σ σ1 s tp F [] 1099511627776 := ⟨h1, hF1, hs1, hS1⟩
  simp (maxSteps := 2000000) only [B0, B1, B2, B3, B4, B5, B6, B7, Gd, extV, Nat.reduceLT, Nat.reduceEqDiff, Nat.reduceBEq, Nat.reduceAdd, Nat.reduceSub, Nat.reduceMul, ↓reduceIte, reduceCtorEq, if_true, if_false, ite_true, ite_false, Int.reduceLT, Int.reduceLE, ptr, callV_func Try.enters_64, callV_func Try.enters_73, callV_func Try.enters_74, callV_func Try.enters_67, callV_func Try.enters_69, allocV_zero Try.zero_120, Try.st_120, callV_func Try.enters_75, Try.len_109, callV_func Try.enters_70, Int.reduceEq,  rem257,  hmany,  conv_int Try.underlying124 Try.underlying3,  hwm, rs_tmp (show Try.f11.results = #[.tmp 4] from rfl)]
  refine W_blk_cut (fun fr σ' => ∃ (t : Tr Value) (F : List Nat), fr = ⟨143, t⟩ ∧ t.get 5 = some (pt s) ∧ t.get 7 = some (.int .i64 (many : Int)) ∧ t.get 8 = some (.func (.func 71) #[] #[]) ∧ LO σ σ' s tp F (tabN many once 256) 1000) ?_ ?_
  · refine W_inv (fun k fr σ' => ∃ (t : Tr Value) (j : Nat) (F : List Nat) (a : Int), fr = ⟨143, t⟩ ∧ t.get 1 = some (.bool once) ∧ t.get 5 = some (pt s) ∧ t.get 7 = some (.int .i64 (many : Int)) ∧ t.get 8 = some (.func (.func 71) #[] #[]) ∧ t.get 29 = some (.int .i64 (j : Int)) ∧ k + j = 256 ∧ (0 < j → a = 1000) ∧ 0 ≤ a ∧ a ≤ 1099511627776 ∧ LO σ σ' s tp F (tabN many once j) a) 256 (by omega)
      ⟨_, 0, F, _, rfl, by simp [get_put, get_args], by simp [get_put], by simp [get_put], by simp [get_put], by simp [get_put], rfl, by omega, by omega, by omega, w1⟩ ?_
    clear w1 h1 hF1
    rintro k fr σ4 ⟨t, j, F, a, rfl, t1, t5, t7, t8, t29, hk, ha, ha0, ha1, w4⟩
    by_cases hlt : j < 256
    · have hlt' : ((j : Int) < 256) = True := eq_true (by omega)
      have hw1 : IntKind.i64.wrap ((j : Int) + 1) = ((j + 1 : Nat) : Int) := wrap64 (by omega) (by omega)
      cases once with
      | true =>
        by_cases hjm : j < many
        · have hjm' : ((j : Int) < (many : Int)) = True := eq_true (by omega)
          have hjm2 : ((many : Int) ≤ (j : Int)) = False := eq_false (by omega)
          simp (maxSteps := 2000000) only [B0, B1, B2, B3, B4, B5, B6, B7, Gd, extV, Nat.reduceLT, Nat.reduceEqDiff, Nat.reduceBEq, Nat.reduceAdd, Nat.reduceSub, Nat.reduceMul, ↓reduceIte, reduceCtorEq, if_true, if_false, ite_true, ite_false, Int.reduceLT, Int.reduceLE, ptr, callV_func Try.enters_64, callV_func Try.enters_73, callV_func Try.enters_74, callV_func Try.enters_67, callV_func Try.enters_69, allocV_zero Try.zero_120, Try.st_120, callV_func Try.enters_75, Try.len_109, callV_func Try.enters_70, t1,  t5,  t7,  t8,  t29,  hlt', rs_tmp (show Try.f11.results = #[.tmp 4] from rfl)]
          refine lset_run f.toFreeL w4.h (t := 1000) (by omega) (by omega) fun σ5 h5 hS5 => ?_
          have w5 := w4.aged h5 hS5
          simp (maxSteps := 2000000) only [B0, B1, B2, B3, B4, B5, B6, B7, Gd, extV, Nat.reduceLT, Nat.reduceEqDiff, Nat.reduceBEq, Nat.reduceAdd, Nat.reduceSub, Nat.reduceMul, ↓reduceIte, reduceCtorEq, if_true, if_false, ite_true, ite_false, Int.reduceLT, Int.reduceLE, ptr, callV_func Try.enters_64, callV_func Try.enters_73, callV_func Try.enters_74, callV_func Try.enters_67, callV_func Try.enters_69, allocV_zero Try.zero_120, Try.st_120, callV_func Try.enters_75, Try.len_109, callV_func Try.enters_70, t1,  t5,  t7,  t8,  t29,  hjm',  callV_func Try.enters_71, rs_tmp (show Try.f11.results = #[.tmp 4] from rfl)]
          refine nm_run f (k := j) (by omega) (by omega) fun σ6 hS6 => ?_
          have w6 := w5.step hS6
          simp (maxSteps := 2000000) only [B0, B1, B2, B3, B4, B5, B6, B7, Gd, extV, Nat.reduceLT, Nat.reduceEqDiff, Nat.reduceBEq, Nat.reduceAdd, Nat.reduceSub, Nat.reduceMul, ↓reduceIte, reduceCtorEq, if_true, if_false, ite_true, ite_false, Int.reduceLT, Int.reduceLE, ptr, callV_func Try.enters_64, callV_func Try.enters_73, callV_func Try.enters_74, callV_func Try.enters_67, callV_func Try.enters_69, allocV_zero Try.zero_120, Try.st_120, callV_func Try.enters_75, Try.len_109, callV_func Try.enters_70, t1,  t5,  t7,  t8,  t29, rs_tmp (show Try.f11.results = #[.tmp 4] from rfl)]
          refine lfix_run (d := 1) (p := 1) f.toFreeL w6.h (nM_sta (by omega)) (by omega) (by omega) fun σ7 F7 h7 hF7 hS7 => ?_
          have w7 := w6.call h7 hF7 hS7
          rw [round_fix hlt hjm] at w7 ⊢
          simp (maxSteps := 2000000) only [B0, B1, B2, B3, B4, B5, B6, B7, Gd, extV, Nat.reduceLT, Nat.reduceEqDiff, Nat.reduceBEq, Nat.reduceAdd, Nat.reduceSub, Nat.reduceMul, ↓reduceIte, reduceCtorEq, if_true, if_false, ite_true, ite_false, Int.reduceLT, Int.reduceLE, ptr, callV_func Try.enters_64, callV_func Try.enters_73, callV_func Try.enters_74, callV_func Try.enters_67, callV_func Try.enters_69, allocV_zero Try.zero_120, Try.st_120, callV_func Try.enters_75, Try.len_109, callV_func Try.enters_70, t1,  t5,  t7,  t8,  t29,  Int.reduceEq,  callV_func Try.enters_71, rs_tmp (show Try.f11.results = #[.tmp 4] from rfl)]
          refine nm_run f (k := j) (by omega) (by omega) fun σ8 hS8 => ?_
          have w8 := w7.step hS8
          simp (maxSteps := 2000000) only [B0, B1, B2, B3, B4, B5, B6, B7, Gd, extV, Nat.reduceLT, Nat.reduceEqDiff, Nat.reduceBEq, Nat.reduceAdd, Nat.reduceSub, Nat.reduceMul, ↓reduceIte, reduceCtorEq, if_true, if_false, ite_true, ite_false, Int.reduceLT, Int.reduceLE, ptr, callV_func Try.enters_64, callV_func Try.enters_73, callV_func Try.enters_74, callV_func Try.enters_67, callV_func Try.enters_69, allocV_zero Try.zero_120, Try.st_120, callV_func Try.enters_75, Try.len_109, callV_func Try.enters_70, t1,  t5,  t7,  t8,  t29, rs_tmp (show Try.f11.results = #[.tmp 4] from rfl)]
          refine lsee_run (d := 1) (p := 1) (now := if true then 0 else (j : Int)) f.toFreeL w8.h (nM_sta (by omega)) (by omega) (by simp; try omega) (by omega) (by omega) fun σ9 F9 h9 hF9 hS9 => ?_
          have w9 := w8.call h9 hF9 hS9
          simp only at w9 ⊢
          rw [round_see hlt hjm] at w9 ⊢
          simp (maxSteps := 2000000) only [B0, B1, B2, B3, B4, B5, B6, B7, Gd, extV, Nat.reduceLT, Nat.reduceEqDiff, Nat.reduceBEq, Nat.reduceAdd, Nat.reduceSub, Nat.reduceMul, ↓reduceIte, reduceCtorEq, if_true, if_false, ite_true, ite_false, Int.reduceLT, Int.reduceLE, ptr, callV_func Try.enters_64, callV_func Try.enters_73, callV_func Try.enters_74, callV_func Try.enters_67, callV_func Try.enters_69, allocV_zero Try.zero_120, Try.st_120, callV_func Try.enters_75, Try.len_109, callV_func Try.enters_70, t1,  t5,  t7,  t8,  t29,  Int.reduceEq,  hjm',  hjm2,  wanted_g (P := Try.prog),  wantB_tt,  wantB_ff,  wantB_tf,  wantB_ft,  wantB_un,  hw1,  KInv_normal, rs_tmp (show Try.f11.results = #[.tmp 4] from rfl)]
          exact ⟨256 - (j + 1), by omega, _, j + 1, F9, 1000, rfl, by simp [get_put, t1], by simp [get_put, t5], by simp [get_put, t7], by simp [get_put, t8], by simp [get_put], by omega, fun _ => rfl, by omega, by omega, w9⟩
        · have hjm' : ((j : Int) < (many : Int)) = False := eq_false (by omega)
          have hjm2 : ((many : Int) ≤ (j : Int)) = True := eq_true (by omega)
          simp (maxSteps := 2000000) only [B0, B1, B2, B3, B4, B5, B6, B7, Gd, extV, Nat.reduceLT, Nat.reduceEqDiff, Nat.reduceBEq, Nat.reduceAdd, Nat.reduceSub, Nat.reduceMul, ↓reduceIte, reduceCtorEq, if_true, if_false, ite_true, ite_false, Int.reduceLT, Int.reduceLE, ptr, callV_func Try.enters_64, callV_func Try.enters_73, callV_func Try.enters_74, callV_func Try.enters_67, callV_func Try.enters_69, allocV_zero Try.zero_120, Try.st_120, callV_func Try.enters_75, Try.len_109, callV_func Try.enters_70, t1,  t5,  t7,  t8,  t29,  hlt', rs_tmp (show Try.f11.results = #[.tmp 4] from rfl)]
          refine lset_run f.toFreeL w4.h (t := 1000) (by omega) (by omega) fun σ5 h5 hS5 => ?_
          have w5 := w4.aged h5 hS5
          simp (maxSteps := 2000000) only [B0, B1, B2, B3, B4, B5, B6, B7, Gd, extV, Nat.reduceLT, Nat.reduceEqDiff, Nat.reduceBEq, Nat.reduceAdd, Nat.reduceSub, Nat.reduceMul, ↓reduceIte, reduceCtorEq, if_true, if_false, ite_true, ite_false, Int.reduceLT, Int.reduceLE, ptr, callV_func Try.enters_64, callV_func Try.enters_73, callV_func Try.enters_74, callV_func Try.enters_67, callV_func Try.enters_69, allocV_zero Try.zero_120, Try.st_120, callV_func Try.enters_75, Try.len_109, callV_func Try.enters_70, t1,  t5,  t7,  t8,  t29,  hjm',  callV_func Try.enters_71, rs_tmp (show Try.f11.results = #[.tmp 4] from rfl)]
          refine nm_run f (k := j) (by omega) (by omega) fun σ8 hS8 => ?_
          have w8 := w5.step hS8
          simp (maxSteps := 2000000) only [B0, B1, B2, B3, B4, B5, B6, B7, Gd, extV, Nat.reduceLT, Nat.reduceEqDiff, Nat.reduceBEq, Nat.reduceAdd, Nat.reduceSub, Nat.reduceMul, ↓reduceIte, reduceCtorEq, if_true, if_false, ite_true, ite_false, Int.reduceLT, Int.reduceLE, ptr, callV_func Try.enters_64, callV_func Try.enters_73, callV_func Try.enters_74, callV_func Try.enters_67, callV_func Try.enters_69, allocV_zero Try.zero_120, Try.st_120, callV_func Try.enters_75, Try.len_109, callV_func Try.enters_70, t1,  t5,  t7,  t8,  t29, rs_tmp (show Try.f11.results = #[.tmp 4] from rfl)]
          refine lsee_run (d := 1) (p := 1) (now := if true then 0 else (j : Int)) f.toFreeL w8.h (nM_sta (by omega)) (by omega) (by simp; try omega) (by omega) (by omega) fun σ9 F9 h9 hF9 hS9 => ?_
          have w9 := w8.call h9 hF9 hS9
          rw [round_new hlt hjm] at w9 ⊢
          simp (maxSteps := 2000000) only [B0, B1, B2, B3, B4, B5, B6, B7, Gd, extV, Nat.reduceLT, Nat.reduceEqDiff, Nat.reduceBEq, Nat.reduceAdd, Nat.reduceSub, Nat.reduceMul, ↓reduceIte, reduceCtorEq, if_true, if_false, ite_true, ite_false, Int.reduceLT, Int.reduceLE, ptr, callV_func Try.enters_64, callV_func Try.enters_73, callV_func Try.enters_74, callV_func Try.enters_67, callV_func Try.enters_69, allocV_zero Try.zero_120, Try.st_120, callV_func Try.enters_75, Try.len_109, callV_func Try.enters_70, t1,  t5,  t7,  t8,  t29,  Int.reduceEq,  hjm',  hjm2,  wanted_g (P := Try.prog),  wantB_tt,  wantB_ff,  wantB_tf,  wantB_ft,  wantB_un,  hw1,  KInv_normal, rs_tmp (show Try.f11.results = #[.tmp 4] from rfl)]
          exact ⟨256 - (j + 1), by omega, _, j + 1, F9, 1000, rfl, by simp [get_put, t1], by simp [get_put, t5], by simp [get_put, t7], by simp [get_put, t8], by simp [get_put], by omega, fun _ => rfl, by omega, by omega, w9⟩
      | false =>
        by_cases hjm : j < many
        · have hjm' : ((j : Int) < (many : Int)) = True := eq_true (by omega)
          have hjm2 : ((many : Int) ≤ (j : Int)) = False := eq_false (by omega)
          simp (maxSteps := 2000000) only [B0, B1, B2, B3, B4, B5, B6, B7, Gd, extV, Nat.reduceLT, Nat.reduceEqDiff, Nat.reduceBEq, Nat.reduceAdd, Nat.reduceSub, Nat.reduceMul, ↓reduceIte, reduceCtorEq, if_true, if_false, ite_true, ite_false, Int.reduceLT, Int.reduceLE, ptr, callV_func Try.enters_64, callV_func Try.enters_73, callV_func Try.enters_74, callV_func Try.enters_67, callV_func Try.enters_69, allocV_zero Try.zero_120, Try.st_120, callV_func Try.enters_75, Try.len_109, callV_func Try.enters_70, t1,  t5,  t7,  t8,  t29,  hlt', rs_tmp (show Try.f11.results = #[.tmp 4] from rfl)]
          refine lset_run f.toFreeL w4.h (t := 1000) (by omega) (by omega) fun σ5 h5 hS5 => ?_
          have w5 := w4.aged h5 hS5
          simp (maxSteps := 2000000) only [B0, B1, B2, B3, B4, B5, B6, B7, Gd, extV, Nat.reduceLT, Nat.reduceEqDiff, Nat.reduceBEq, Nat.reduceAdd, Nat.reduceSub, Nat.reduceMul, ↓reduceIte, reduceCtorEq, if_true, if_false, ite_true, ite_false, Int.reduceLT, Int.reduceLE, ptr, callV_func Try.enters_64, callV_func Try.enters_73, callV_func Try.enters_74, callV_func Try.enters_67, callV_func Try.enters_69, allocV_zero Try.zero_120, Try.st_120, callV_func Try.enters_75, Try.len_109, callV_func Try.enters_70, t1,  t5,  t7,  t8,  t29,  hjm',  callV_func Try.enters_71, rs_tmp (show Try.f11.results = #[.tmp 4] from rfl)]
          refine nm_run f (k := j) (by omega) (by omega) fun σ6 hS6 => ?_
          have w6 := w5.step hS6
          simp (maxSteps := 2000000) only [B0, B1, B2, B3, B4, B5, B6, B7, Gd, extV, Nat.reduceLT, Nat.reduceEqDiff, Nat.reduceBEq, Nat.reduceAdd, Nat.reduceSub, Nat.reduceMul, ↓reduceIte, reduceCtorEq, if_true, if_false, ite_true, ite_false, Int.reduceLT, Int.reduceLE, ptr, callV_func Try.enters_64, callV_func Try.enters_73, callV_func Try.enters_74, callV_func Try.enters_67, callV_func Try.enters_69, allocV_zero Try.zero_120, Try.st_120, callV_func Try.enters_75, Try.len_109, callV_func Try.enters_70, t1,  t5,  t7,  t8,  t29, rs_tmp (show Try.f11.results = #[.tmp 4] from rfl)]
          refine lfix_run (d := 1) (p := 1) f.toFreeL w6.h (nM_sta (by omega)) (by omega) (by omega) fun σ7 F7 h7 hF7 hS7 => ?_
          have w7 := w6.call h7 hF7 hS7
          rw [round_fix hlt hjm] at w7 ⊢
          simp (maxSteps := 2000000) only [B0, B1, B2, B3, B4, B5, B6, B7, Gd, extV, Nat.reduceLT, Nat.reduceEqDiff, Nat.reduceBEq, Nat.reduceAdd, Nat.reduceSub, Nat.reduceMul, ↓reduceIte, reduceCtorEq, if_true, if_false, ite_true, ite_false, Int.reduceLT, Int.reduceLE, ptr, callV_func Try.enters_64, callV_func Try.enters_73, callV_func Try.enters_74, callV_func Try.enters_67, callV_func Try.enters_69, allocV_zero Try.zero_120, Try.st_120, callV_func Try.enters_75, Try.len_109, callV_func Try.enters_70, t1,  t5,  t7,  t8,  t29,  Int.reduceEq,  callV_func Try.enters_71, rs_tmp (show Try.f11.results = #[.tmp 4] from rfl)]
          refine nm_run f (k := j) (by omega) (by omega) fun σ8 hS8 => ?_
          have w8 := w7.step hS8
          simp (maxSteps := 2000000) only [B0, B1, B2, B3, B4, B5, B6, B7, Gd, extV, Nat.reduceLT, Nat.reduceEqDiff, Nat.reduceBEq, Nat.reduceAdd, Nat.reduceSub, Nat.reduceMul, ↓reduceIte, reduceCtorEq, if_true, if_false, ite_true, ite_false, Int.reduceLT, Int.reduceLE, ptr, callV_func Try.enters_64, callV_func Try.enters_73, callV_func Try.enters_74, callV_func Try.enters_67, callV_func Try.enters_69, allocV_zero Try.zero_120, Try.st_120, callV_func Try.enters_75, Try.len_109, callV_func Try.enters_70, t1,  t5,  t7,  t8,  t29, rs_tmp (show Try.f11.results = #[.tmp 4] from rfl)]
          refine lsee_run (d := 1) (p := 1) (now := if false then 0 else (j : Int)) f.toFreeL w8.h (nM_sta (by omega)) (by omega) (by simp; try omega) (by omega) (by omega) fun σ9 F9 h9 hF9 hS9 => ?_
          have w9 := w8.call h9 hF9 hS9
          simp only at w9 ⊢
          rw [round_see hlt hjm] at w9 ⊢
          simp (maxSteps := 2000000) only [B0, B1, B2, B3, B4, B5, B6, B7, Gd, extV, Nat.reduceLT, Nat.reduceEqDiff, Nat.reduceBEq, Nat.reduceAdd, Nat.reduceSub, Nat.reduceMul, ↓reduceIte, reduceCtorEq, if_true, if_false, ite_true, ite_false, Int.reduceLT, Int.reduceLE, ptr, callV_func Try.enters_64, callV_func Try.enters_73, callV_func Try.enters_74, callV_func Try.enters_67, callV_func Try.enters_69, allocV_zero Try.zero_120, Try.st_120, callV_func Try.enters_75, Try.len_109, callV_func Try.enters_70, t1,  t5,  t7,  t8,  t29,  Int.reduceEq,  hjm',  hjm2,  wanted_g (P := Try.prog),  wantB_tt,  wantB_ff,  wantB_tf,  wantB_ft,  wantB_un,  hw1,  KInv_normal, rs_tmp (show Try.f11.results = #[.tmp 4] from rfl)]
          exact ⟨256 - (j + 1), by omega, _, j + 1, F9, 1000, rfl, by simp [get_put, t1], by simp [get_put, t5], by simp [get_put, t7], by simp [get_put, t8], by simp [get_put], by omega, fun _ => rfl, by omega, by omega, w9⟩
        · have hjm' : ((j : Int) < (many : Int)) = False := eq_false (by omega)
          have hjm2 : ((many : Int) ≤ (j : Int)) = True := eq_true (by omega)
          simp (maxSteps := 2000000) only [B0, B1, B2, B3, B4, B5, B6, B7, Gd, extV, Nat.reduceLT, Nat.reduceEqDiff, Nat.reduceBEq, Nat.reduceAdd, Nat.reduceSub, Nat.reduceMul, ↓reduceIte, reduceCtorEq, if_true, if_false, ite_true, ite_false, Int.reduceLT, Int.reduceLE, ptr, callV_func Try.enters_64, callV_func Try.enters_73, callV_func Try.enters_74, callV_func Try.enters_67, callV_func Try.enters_69, allocV_zero Try.zero_120, Try.st_120, callV_func Try.enters_75, Try.len_109, callV_func Try.enters_70, t1,  t5,  t7,  t8,  t29,  hlt', rs_tmp (show Try.f11.results = #[.tmp 4] from rfl)]
          refine lset_run f.toFreeL w4.h (t := 1000) (by omega) (by omega) fun σ5 h5 hS5 => ?_
          have w5 := w4.aged h5 hS5
          simp (maxSteps := 2000000) only [B0, B1, B2, B3, B4, B5, B6, B7, Gd, extV, Nat.reduceLT, Nat.reduceEqDiff, Nat.reduceBEq, Nat.reduceAdd, Nat.reduceSub, Nat.reduceMul, ↓reduceIte, reduceCtorEq, if_true, if_false, ite_true, ite_false, Int.reduceLT, Int.reduceLE, ptr, callV_func Try.enters_64, callV_func Try.enters_73, callV_func Try.enters_74, callV_func Try.enters_67, callV_func Try.enters_69, allocV_zero Try.zero_120, Try.st_120, callV_func Try.enters_75, Try.len_109, callV_func Try.enters_70, t1,  t5,  t7,  t8,  t29,  hjm',  callV_func Try.enters_71, rs_tmp (show Try.f11.results = #[.tmp 4] from rfl)]
          refine nm_run f (k := j) (by omega) (by omega) fun σ8 hS8 => ?_
          have w8 := w5.step hS8
          simp (maxSteps := 2000000) only [B0, B1, B2, B3, B4, B5, B6, B7, Gd, extV, Nat.reduceLT, Nat.reduceEqDiff, Nat.reduceBEq, Nat.reduceAdd, Nat.reduceSub, Nat.reduceMul, ↓reduceIte, reduceCtorEq, if_true, if_false, ite_true, ite_false, Int.reduceLT, Int.reduceLE, ptr, callV_func Try.enters_64, callV_func Try.enters_73, callV_func Try.enters_74, callV_func Try.enters_67, callV_func Try.enters_69, allocV_zero Try.zero_120, Try.st_120, callV_func Try.enters_75, Try.len_109, callV_func Try.enters_70, t1,  t5,  t7,  t8,  t29, rs_tmp (show Try.f11.results = #[.tmp 4] from rfl)]
          refine lsee_run (d := 1) (p := 1) (now := if false then 0 else (j : Int)) f.toFreeL w8.h (nM_sta (by omega)) (by omega) (by simp; try omega) (by omega) (by omega) fun σ9 F9 h9 hF9 hS9 => ?_
          have w9 := w8.call h9 hF9 hS9
          rw [round_new hlt hjm] at w9 ⊢
          simp (maxSteps := 2000000) only [B0, B1, B2, B3, B4, B5, B6, B7, Gd, extV, Nat.reduceLT, Nat.reduceEqDiff, Nat.reduceBEq, Nat.reduceAdd, Nat.reduceSub, Nat.reduceMul, ↓reduceIte, reduceCtorEq, if_true, if_false, ite_true, ite_false, Int.reduceLT, Int.reduceLE, ptr, callV_func Try.enters_64, callV_func Try.enters_73, callV_func Try.enters_74, callV_func Try.enters_67, callV_func Try.enters_69, allocV_zero Try.zero_120, Try.st_120, callV_func Try.enters_75, Try.len_109, callV_func Try.enters_70, t1,  t5,  t7,  t8,  t29,  Int.reduceEq,  hjm',  hjm2,  wanted_g (P := Try.prog),  wantB_tt,  wantB_ff,  wantB_tf,  wantB_ft,  wantB_un,  hw1,  KInv_normal, rs_tmp (show Try.f11.results = #[.tmp 4] from rfl)]
          exact ⟨256 - (j + 1), by omega, _, j + 1, F9, 1000, rfl, by simp [get_put, t1], by simp [get_put, t5], by simp [get_put, t7], by simp [get_put, t8], by simp [get_put], by omega, fun _ => rfl, by omega, by omega, w9⟩
    · have hlt' : ((j : Int) < 256) = False := eq_false (by omega)
      simp (maxSteps := 2000000) only [B0, B1, B2, B3, B4, B5, B6, B7, Gd, extV, Nat.reduceLT, Nat.reduceEqDiff, Nat.reduceBEq, Nat.reduceAdd, Nat.reduceSub, Nat.reduceMul, ↓reduceIte, reduceCtorEq, if_true, if_false, ite_true, ite_false, Int.reduceLT, Int.reduceLE, ptr, callV_func Try.enters_64, callV_func Try.enters_73, callV_func Try.enters_74, callV_func Try.enters_67, callV_func Try.enters_69, allocV_zero Try.zero_120, Try.st_120, callV_func Try.enters_75, Try.len_109, callV_func Try.enters_70, t29,  hlt', rs_tmp (show Try.f11.results = #[.tmp 4] from rfl)]
      obtain rfl : j = 256 := by omega
      have ha := ha (by omega)
      subst ha
      exact ⟨_, _, rfl, _, F, rfl, by simp [get_put, t5], by simp [get_put, t7], by simp [get_put, t8], w4⟩
  · rintro fr σ4 ⟨t, F, rfl, t5, t7, t8, w4⟩
    rw [KSeq_normal]
    obtain ⟨T, q1, q2, q3, q4, q5, q6, U, c, q7, q8, q9⟩ := full_see (once := once) hm
    by_cases hlt : many < 256
    · have cm : ((many : Int) < 256) = True := eq_true (by omega)
      have q10 : ((many : Int) = 256) = False := eq_false (by omega)
      have q8' : (c.2 = 7) = False := eq_false fun w => by have := q8.1 w; omega
      rw [if_pos hlt] at q2
      rw [decide_eq_true hlt] at q3
      simp (maxSteps := 2000000) only [B0, B1, B2, B3, B4, B5, B6, B7, Gd, extV, Nat.reduceLT, Nat.reduceEqDiff, Nat.reduceBEq, Nat.reduceAdd, Nat.reduceSub, Nat.reduceMul, ↓reduceIte, reduceCtorEq, if_true, if_false, ite_true, ite_false, Int.reduceLT, Int.reduceLE, ptr, callV_func Try.enters_64, callV_func Try.enters_73, callV_func Try.enters_74, callV_func Try.enters_67, callV_func Try.enters_69, allocV_zero Try.zero_120, Try.st_120, callV_func Try.enters_75, Try.len_109, callV_func Try.enters_70, t5,  t7,  t8,  callV_func Try.enters_71, rs_tmp (show Try.f11.results = #[.tmp 4] from rfl)]
      refine nm_run f (k := 1000) (by omega) (by omega) fun σ5 hS5 => ?_
      have w5 := w4.step hS5
      simp (maxSteps := 2000000) only [B0, B1, B2, B3, B4, B5, B6, B7, Gd, extV, Nat.reduceLT, Nat.reduceEqDiff, Nat.reduceBEq, Nat.reduceAdd, Nat.reduceSub, Nat.reduceMul, ↓reduceIte, reduceCtorEq, if_true, if_false, ite_true, ite_false, Int.reduceLT, Int.reduceLE, ptr, callV_func Try.enters_64, callV_func Try.enters_73, callV_func Try.enters_74, callV_func Try.enters_67, callV_func Try.enters_69, allocV_zero Try.zero_120, Try.st_120, callV_func Try.enters_75, Try.len_109, callV_func Try.enters_70, t5,  t7,  t8, rs_tmp (show Try.f11.results = #[.tmp 4] from rfl)]
      refine lsee_run (d := 1) (p := 2) (now := 500) f.toFreeL w5.h (nM_sta (by omega)) (by omega) (by omega) (by omega) (by omega) fun σ6 F6 h6 hF6 hS6 => ?_
      have w6 := w5.call h6 hF6 hS6
      rw [q1] at w6
      rw [q2]
      simp (maxSteps := 2000000) only [B0, B1, B2, B3, B4, B5, B6, B7, Gd, extV, Nat.reduceLT, Nat.reduceEqDiff, Nat.reduceBEq, Nat.reduceAdd, Nat.reduceSub, Nat.reduceMul, ↓reduceIte, reduceCtorEq, if_true, if_false, ite_true, ite_false, Int.reduceLT, Int.reduceLE, ptr, callV_func Try.enters_64, callV_func Try.enters_73, callV_func Try.enters_74, callV_func Try.enters_67, callV_func Try.enters_69, allocV_zero Try.zero_120, Try.st_120, callV_func Try.enters_75, Try.len_109, callV_func Try.enters_70, t5,  t7,  t8,  callV_func Try.enters_71, rs_tmp (show Try.f11.results = #[.tmp 4] from rfl)]
      refine nm_run f (k := 1000) (by omega) (by omega) fun σ7 hS7 => ?_
      have w7 := w6.step hS7
      simp (maxSteps := 2000000) only [B0, B1, B2, B3, B4, B5, B6, B7, Gd, extV, Nat.reduceLT, Nat.reduceEqDiff, Nat.reduceBEq, Nat.reduceAdd, Nat.reduceSub, Nat.reduceMul, ↓reduceIte, reduceCtorEq, if_true, if_false, ite_true, ite_false, Int.reduceLT, Int.reduceLE, ptr, callV_func Try.enters_64, callV_func Try.enters_73, callV_func Try.enters_74, callV_func Try.enters_67, callV_func Try.enters_69, allocV_zero Try.zero_120, Try.st_120, callV_func Try.enters_75, Try.len_109, callV_func Try.enters_70, t5,  t7,  t8, rs_tmp (show Try.f11.results = #[.tmp 4] from rfl)]
      refine lfind_run (d := 1) f.toFreeL w7.h (nM_sta (by omega)) (by omega) fun σ8 hS8 => ?_
      have w8 := w7.step hS8
      obtain ⟨σ9, σ10, e9, t10', w10, x10, hS10, _⟩ := w8.var 120 zSt (((getE (kN 1000) T).map encSt).getD zSt) (opt_len _) (opt_single _)
      rw [q3]
      simp (maxSteps := 2000000) only [B0, B1, B2, B3, B4, B5, B6, B7, Gd, extV, Nat.reduceLT, Nat.reduceEqDiff, Nat.reduceBEq, Nat.reduceAdd, Nat.reduceSub, Nat.reduceMul, ↓reduceIte, reduceCtorEq, if_true, if_false, ite_true, ite_false, Int.reduceLT, Int.reduceLE, ptr, callV_func Try.enters_64, callV_func Try.enters_73, callV_func Try.enters_74, callV_func Try.enters_67, callV_func Try.enters_69, allocV_zero Try.zero_120, Try.st_120, callV_func Try.enters_75, Try.len_109, callV_func Try.enters_70, t5,  t7,  t8,  zst,  Value.cells,  opt_size,  opt_list,  e9,  t10',  callV_func Try.enters_71, rs_tmp (show Try.f11.results = #[.tmp 4] from rfl)]
      refine nm_run f (k := many) (by omega) (by omega) fun σ11 hS11 => ?_
      have w11 := w10.step hS11
      simp (maxSteps := 2000000) only [B0, B1, B2, B3, B4, B5, B6, B7, Gd, extV, Nat.reduceLT, Nat.reduceEqDiff, Nat.reduceBEq, Nat.reduceAdd, Nat.reduceSub, Nat.reduceMul, ↓reduceIte, reduceCtorEq, if_true, if_false, ite_true, ite_false, Int.reduceLT, Int.reduceLE, ptr, callV_func Try.enters_64, callV_func Try.enters_73, callV_func Try.enters_74, callV_func Try.enters_67, callV_func Try.enters_69, allocV_zero Try.zero_120, Try.st_120, callV_func Try.enters_75, Try.len_109, callV_func Try.enters_70, t5,  t7,  t8, rs_tmp (show Try.f11.results = #[.tmp 4] from rfl)]
      refine lfind_run (d := 1) f.toFreeL w11.h (nM_sta (by omega)) (by omega) fun σ12 hS12 => ?_
      have w12 := w11.step hS12
      obtain ⟨σ13, σ14, e13, t14', w14, x14, hS14, _⟩ := w12.var 120 zSt (((getE (kN many) T).map encSt).getD zSt) (opt_len _) (opt_single _)
      rw [q4] at t14' ⊢
      simp only [Option.map_none, Option.getD_none] at t14'
      have zs1 : zSt.toArray.size = 10 := rfl
      have zs2 : zSt.toArray.toList = zSt := rfl
      simp (maxSteps := 2000000) only [B0, B1, B2, B3, B4, B5, B6, B7, Gd, extV, Nat.reduceLT, Nat.reduceEqDiff, Nat.reduceBEq, Nat.reduceAdd, Nat.reduceSub, Nat.reduceMul, ↓reduceIte, reduceCtorEq, if_true, if_false, ite_true, ite_false, Int.reduceLT, Int.reduceLE, ptr, callV_func Try.enters_64, callV_func Try.enters_73, callV_func Try.enters_74, callV_func Try.enters_67, callV_func Try.enters_69, allocV_zero Try.zero_120, Try.st_120, callV_func Try.enters_75, Try.len_109, callV_func Try.enters_70, t5,  t7,  t8,  zst,  Value.cells,  Option.map_none,  Option.getD_none,  zs1,  zs2,  e13,  t14',  Option.isSome_none,  Int.reduceEq, rs_tmp (show Try.f11.results = #[.tmp 4] from rfl)]
      refine lall_run f.toFreeL w14.h (by omega) fun σ15 v15 hv15 hb15 hS15 => ?_
      have w15 := w14.step hS15
      obtain ⟨a15, c15, rfl, _⟩ := hv15.len
      simp (maxSteps := 2000000) only [B0, B1, B2, B3, B4, B5, B6, B7, Gd, extV, Nat.reduceLT, Nat.reduceEqDiff, Nat.reduceBEq, Nat.reduceAdd, Nat.reduceSub, Nat.reduceMul, ↓reduceIte, reduceCtorEq, if_true, if_false, ite_true, ite_false, Int.reduceLT, Int.reduceLE, ptr, callV_func Try.enters_64, callV_func Try.enters_73, callV_func Try.enters_74, callV_func Try.enters_67, callV_func Try.enters_69, allocV_zero Try.zero_120, Try.st_120, callV_func Try.enters_75, Try.len_109, callV_func Try.enters_70, t5,  t7,  t8,  cm,  q6,  wanted_g (P := Try.prog),  wantB_tt,  wantB_ff,  wantB_tf,  wantB_ft,  wantB_un,  bin_bneq Try.underlying4,  bin_beql Try.underlying4,  Int.reduceEq,  Int.reduceLT,  Int.cast_ofNat_Int,  decide_true,  decide_false,  eq_self,  Bool.false_eq_true,  Bool.true_eq_false,  callV_func Try.enters_71, rs_tmp (show Try.f11.results = #[.tmp 4] from rfl)]
      refine nm_run f (k := 2000) (by omega) (by omega) fun σ16 hS16 => ?_
      have w16 := w15.step hS16
      simp (maxSteps := 2000000) only [B0, B1, B2, B3, B4, B5, B6, B7, Gd, extV, Nat.reduceLT, Nat.reduceEqDiff, Nat.reduceBEq, Nat.reduceAdd, Nat.reduceSub, Nat.reduceMul, ↓reduceIte, reduceCtorEq, if_true, if_false, ite_true, ite_false, Int.reduceLT, Int.reduceLE, ptr, callV_func Try.enters_64, callV_func Try.enters_73, callV_func Try.enters_74, callV_func Try.enters_67, callV_func Try.enters_69, allocV_zero Try.zero_120, Try.st_120, callV_func Try.enters_75, Try.len_109, callV_func Try.enters_70, t5,  t7,  t8, rs_tmp (show Try.f11.results = #[.tmp 4] from rfl)]
      refine lfix_run (d := 1) (p := 3) f.toFreeL w16.h (nM_sta (by omega)) (by omega) (by omega) fun σ17 F17 h17 hF17 hS17 => ?_
      have w17 := w16.call h17 hF17 hS17
      rw [q7] at w17 ⊢
      simp (maxSteps := 2000000) only [B0, B1, B2, B3, B4, B5, B6, B7, Gd, extV, Nat.reduceLT, Nat.reduceEqDiff, Nat.reduceBEq, Nat.reduceAdd, Nat.reduceSub, Nat.reduceMul, ↓reduceIte, reduceCtorEq, if_true, if_false, ite_true, ite_false, Int.reduceLT, Int.reduceLE, ptr, callV_func Try.enters_64, callV_func Try.enters_73, callV_func Try.enters_74, callV_func Try.enters_67, callV_func Try.enters_69, allocV_zero Try.zero_120, Try.st_120, callV_func Try.enters_75, Try.len_109, callV_func Try.enters_70, t5,  t7,  t8,  q8',  q10,  wanted_g (P := Try.prog),  wantB_tt,  wantB_ff,  wantB_tf,  wantB_ft,  wantB_un,  bin_bneq Try.underlying4,  bin_beql Try.underlying4,  Int.reduceEq,  decide_true,  decide_false,  eq_self,  Bool.false_eq_true,  Bool.true_eq_false, rs_tmp (show Try.f11.results = #[.tmp 4] from rfl)]
      refine lall_run f.toFreeL w17.h (by omega) fun σ18 v18 hv18 hb18 hS18 => ?_
      have w18 := w17.step hS18
      obtain ⟨a18, c18, rfl, _⟩ := hv18.len
      simp (maxSteps := 2000000) only [B0, B1, B2, B3, B4, B5, B6, B7, Gd, extV, Nat.reduceLT, Nat.reduceEqDiff, Nat.reduceBEq, Nat.reduceAdd, Nat.reduceSub, Nat.reduceMul, ↓reduceIte, reduceCtorEq, if_true, if_false, ite_true, ite_false, Int.reduceLT, Int.reduceLE, ptr, callV_func Try.enters_64, callV_func Try.enters_73, callV_func Try.enters_74, callV_func Try.enters_67, callV_func Try.enters_69, allocV_zero Try.zero_120, Try.st_120, callV_func Try.enters_75, Try.len_109, callV_func Try.enters_70, t5,  t7,  t8,  q9,  Int.cast_ofNat_Int,  Int.reduceEq,  eq_self,  wanted_g (P := Try.prog),  wantB_tt,  wantB_ff,  wantB_tf,  wantB_ft,  wantB_un, rs_tmp (show Try.f11.results = #[.tmp 4] from rfl)]
      refine lwakes_run f.toFreeL f.h70 (by omega) fun σ19 hS19 => ?_
      simp (maxSteps := 2000000) only [B0, B1, B2, B3, B4, B5, B6, B7, Gd, extV, Nat.reduceLT, Nat.reduceEqDiff, Nat.reduceBEq, Nat.reduceAdd, Nat.reduceSub, Nat.reduceMul, ↓reduceIte, reduceCtorEq, if_true, if_false, ite_true, ite_false, Int.reduceLT, Int.reduceLE, ptr, callV_func Try.enters_64, callV_func Try.enters_73, callV_func Try.enters_74, callV_func Try.enters_67, callV_func Try.enters_69, allocV_zero Try.zero_120, Try.st_120, callV_func Try.enters_75, Try.len_109, callV_func Try.enters_70, rs_tmp (show Try.f11.results = #[.tmp 4] from rfl)]
      exact hQ σ19 (w18.same.trans hS19 nofun)
    · have cm : ((many : Int) < 256) = False := eq_false (by omega)
      have q10 : ((many : Int) = 256) = True := eq_true (by omega)
      have q8' : (c.2 = 7) = True := eq_true (q8.2 (by omega))
      rw [if_neg hlt] at q2
      rw [decide_eq_false hlt] at q3
      simp (maxSteps := 2000000) only [B0, B1, B2, B3, B4, B5, B6, B7, Gd, extV, Nat.reduceLT, Nat.reduceEqDiff, Nat.reduceBEq, Nat.reduceAdd, Nat.reduceSub, Nat.reduceMul, ↓reduceIte, reduceCtorEq, if_true, if_false, ite_true, ite_false, Int.reduceLT, Int.reduceLE, ptr, callV_func Try.enters_64, callV_func Try.enters_73, callV_func Try.enters_74, callV_func Try.enters_67, callV_func Try.enters_69, allocV_zero Try.zero_120, Try.st_120, callV_func Try.enters_75, Try.len_109, callV_func Try.enters_70, t5,  t7,  t8,  callV_func Try.enters_71, rs_tmp (show Try.f11.results = #[.tmp 4] from rfl)]
      refine nm_run f (k := 1000) (by omega) (by omega) fun σ5 hS5 => ?_
      have w5 := w4.step hS5
      simp (maxSteps := 2000000) only [B0, B1, B2, B3, B4, B5, B6, B7, Gd, extV, Nat.reduceLT, Nat.reduceEqDiff, Nat.reduceBEq, Nat.reduceAdd, Nat.reduceSub, Nat.reduceMul, ↓reduceIte, reduceCtorEq, if_true, if_false, ite_true, ite_false, Int.reduceLT, Int.reduceLE, ptr, callV_func Try.enters_64, callV_func Try.enters_73, callV_func Try.enters_74, callV_func Try.enters_67, callV_func Try.enters_69, allocV_zero Try.zero_120, Try.st_120, callV_func Try.enters_75, Try.len_109, callV_func Try.enters_70, t5,  t7,  t8, rs_tmp (show Try.f11.results = #[.tmp 4] from rfl)]
      refine lsee_run (d := 1) (p := 2) (now := 500) f.toFreeL w5.h (nM_sta (by omega)) (by omega) (by omega) (by omega) (by omega) fun σ6 F6 h6 hF6 hS6 => ?_
      have w6 := w5.call h6 hF6 hS6
      rw [q1] at w6
      rw [q2]
      simp (maxSteps := 2000000) only [B0, B1, B2, B3, B4, B5, B6, B7, Gd, extV, Nat.reduceLT, Nat.reduceEqDiff, Nat.reduceBEq, Nat.reduceAdd, Nat.reduceSub, Nat.reduceMul, ↓reduceIte, reduceCtorEq, if_true, if_false, ite_true, ite_false, Int.reduceLT, Int.reduceLE, ptr, callV_func Try.enters_64, callV_func Try.enters_73, callV_func Try.enters_74, callV_func Try.enters_67, callV_func Try.enters_69, allocV_zero Try.zero_120, Try.st_120, callV_func Try.enters_75, Try.len_109, callV_func Try.enters_70, t5,  t7,  t8,  callV_func Try.enters_71, rs_tmp (show Try.f11.results = #[.tmp 4] from rfl)]
      refine nm_run f (k := 1000) (by omega) (by omega) fun σ7 hS7 => ?_
      have w7 := w6.step hS7
      simp (maxSteps := 2000000) only [B0, B1, B2, B3, B4, B5, B6, B7, Gd, extV, Nat.reduceLT, Nat.reduceEqDiff, Nat.reduceBEq, Nat.reduceAdd, Nat.reduceSub, Nat.reduceMul, ↓reduceIte, reduceCtorEq, if_true, if_false, ite_true, ite_false, Int.reduceLT, Int.reduceLE, ptr, callV_func Try.enters_64, callV_func Try.enters_73, callV_func Try.enters_74, callV_func Try.enters_67, callV_func Try.enters_69, allocV_zero Try.zero_120, Try.st_120, callV_func Try.enters_75, Try.len_109, callV_func Try.enters_70, t5,  t7,  t8, rs_tmp (show Try.f11.results = #[.tmp 4] from rfl)]
      refine lfind_run (d := 1) f.toFreeL w7.h (nM_sta (by omega)) (by omega) fun σ8 hS8 => ?_
      have w8 := w7.step hS8
      obtain ⟨σ9, σ10, e9, t10', w10, x10, hS10, _⟩ := w8.var 120 zSt (((getE (kN 1000) T).map encSt).getD zSt) (opt_len _) (opt_single _)
      rw [q3]
      simp (maxSteps := 2000000) only [B0, B1, B2, B3, B4, B5, B6, B7, Gd, extV, Nat.reduceLT, Nat.reduceEqDiff, Nat.reduceBEq, Nat.reduceAdd, Nat.reduceSub, Nat.reduceMul, ↓reduceIte, reduceCtorEq, if_true, if_false, ite_true, ite_false, Int.reduceLT, Int.reduceLE, ptr, callV_func Try.enters_64, callV_func Try.enters_73, callV_func Try.enters_74, callV_func Try.enters_67, callV_func Try.enters_69, allocV_zero Try.zero_120, Try.st_120, callV_func Try.enters_75, Try.len_109, callV_func Try.enters_70, t5,  t7,  t8,  zst,  Value.cells,  opt_size,  opt_list,  e9,  t10',  callV_func Try.enters_71, rs_tmp (show Try.f11.results = #[.tmp 4] from rfl)]
      refine nm_run f (k := many) (by omega) (by omega) fun σ11 hS11 => ?_
      have w11 := w10.step hS11
      simp (maxSteps := 2000000) only [B0, B1, B2, B3, B4, B5, B6, B7, Gd, extV, Nat.reduceLT, Nat.reduceEqDiff, Nat.reduceBEq, Nat.reduceAdd, Nat.reduceSub, Nat.reduceMul, ↓reduceIte, reduceCtorEq, if_true, if_false, ite_true, ite_false, Int.reduceLT, Int.reduceLE, ptr, callV_func Try.enters_64, callV_func Try.enters_73, callV_func Try.enters_74, callV_func Try.enters_67, callV_func Try.enters_69, allocV_zero Try.zero_120, Try.st_120, callV_func Try.enters_75, Try.len_109, callV_func Try.enters_70, t5,  t7,  t8, rs_tmp (show Try.f11.results = #[.tmp 4] from rfl)]
      refine lfind_run (d := 1) f.toFreeL w11.h (nM_sta (by omega)) (by omega) fun σ12 hS12 => ?_
      have w12 := w11.step hS12
      obtain ⟨σ13, σ14, e13, t14', w14, x14, hS14, _⟩ := w12.var 120 zSt (((getE (kN many) T).map encSt).getD zSt) (opt_len _) (opt_single _)
      rw [q4] at t14' ⊢
      simp only [Option.map_none, Option.getD_none] at t14'
      have zs1 : zSt.toArray.size = 10 := rfl
      have zs2 : zSt.toArray.toList = zSt := rfl
      simp (maxSteps := 2000000) only [B0, B1, B2, B3, B4, B5, B6, B7, Gd, extV, Nat.reduceLT, Nat.reduceEqDiff, Nat.reduceBEq, Nat.reduceAdd, Nat.reduceSub, Nat.reduceMul, ↓reduceIte, reduceCtorEq, if_true, if_false, ite_true, ite_false, Int.reduceLT, Int.reduceLE, ptr, callV_func Try.enters_64, callV_func Try.enters_73, callV_func Try.enters_74, callV_func Try.enters_67, callV_func Try.enters_69, allocV_zero Try.zero_120, Try.st_120, callV_func Try.enters_75, Try.len_109, callV_func Try.enters_70, t5,  t7,  t8,  zst,  Value.cells,  Option.map_none,  Option.getD_none,  zs1,  zs2,  e13,  t14',  Option.isSome_none,  Int.reduceEq, rs_tmp (show Try.f11.results = #[.tmp 4] from rfl)]
      refine lall_run f.toFreeL w14.h (by omega) fun σ15 v15 hv15 hb15 hS15 => ?_
      have w15 := w14.step hS15
      obtain ⟨a15, c15, rfl, _⟩ := hv15.len
      simp (maxSteps := 2000000) only [B0, B1, B2, B3, B4, B5, B6, B7, Gd, extV, Nat.reduceLT, Nat.reduceEqDiff, Nat.reduceBEq, Nat.reduceAdd, Nat.reduceSub, Nat.reduceMul, ↓reduceIte, reduceCtorEq, if_true, if_false, ite_true, ite_false, Int.reduceLT, Int.reduceLE, ptr, callV_func Try.enters_64, callV_func Try.enters_73, callV_func Try.enters_74, callV_func Try.enters_67, callV_func Try.enters_69, allocV_zero Try.zero_120, Try.st_120, callV_func Try.enters_75, Try.len_109, callV_func Try.enters_70, t5,  t7,  t8,  cm,  q6,  wanted_g (P := Try.prog),  wantB_tt,  wantB_ff,  wantB_tf,  wantB_ft,  wantB_un,  bin_bneq Try.underlying4,  bin_beql Try.underlying4,  Int.reduceEq,  Int.reduceLT,  Int.cast_ofNat_Int,  decide_true,  decide_false,  eq_self,  Bool.false_eq_true,  Bool.true_eq_false,  callV_func Try.enters_71, rs_tmp (show Try.f11.results = #[.tmp 4] from rfl)]
      refine nm_run f (k := 2000) (by omega) (by omega) fun σ16 hS16 => ?_
      have w16 := w15.step hS16
      simp (maxSteps := 2000000) only [B0, B1, B2, B3, B4, B5, B6, B7, Gd, extV, Nat.reduceLT, Nat.reduceEqDiff, Nat.reduceBEq, Nat.reduceAdd, Nat.reduceSub, Nat.reduceMul, ↓reduceIte, reduceCtorEq, if_true, if_false, ite_true, ite_false, Int.reduceLT, Int.reduceLE, ptr, callV_func Try.enters_64, callV_func Try.enters_73, callV_func Try.enters_74, callV_func Try.enters_67, callV_func Try.enters_69, allocV_zero Try.zero_120, Try.st_120, callV_func Try.enters_75, Try.len_109, callV_func Try.enters_70, t5,  t7,  t8, rs_tmp (show Try.f11.results = #[.tmp 4] from rfl)]
      refine lfix_run (d := 1) (p := 3) f.toFreeL w16.h (nM_sta (by omega)) (by omega) (by omega) fun σ17 F17 h17 hF17 hS17 => ?_
      have w17 := w16.call h17 hF17 hS17
      rw [q7] at w17 ⊢
      simp (maxSteps := 2000000) only [B0, B1, B2, B3, B4, B5, B6, B7, Gd, extV, Nat.reduceLT, Nat.reduceEqDiff, Nat.reduceBEq, Nat.reduceAdd, Nat.reduceSub, Nat.reduceMul, ↓reduceIte, reduceCtorEq, if_true, if_false, ite_true, ite_false, Int.reduceLT, Int.reduceLE, ptr, callV_func Try.enters_64, callV_func Try.enters_73, callV_func Try.enters_74, callV_func Try.enters_67, callV_func Try.enters_69, allocV_zero Try.zero_120, Try.st_120, callV_func Try.enters_75, Try.len_109, callV_func Try.enters_70, t5,  t7,  t8,  q8',  q10,  wanted_g (P := Try.prog),  wantB_tt,  wantB_ff,  wantB_tf,  wantB_ft,  wantB_un,  bin_bneq Try.underlying4,  bin_beql Try.underlying4,  Int.reduceEq,  decide_true,  decide_false,  eq_self,  Bool.false_eq_true,  Bool.true_eq_false, rs_tmp (show Try.f11.results = #[.tmp 4] from rfl)]
      refine lall_run f.toFreeL w17.h (by omega) fun σ18 v18 hv18 hb18 hS18 => ?_
      have w18 := w17.step hS18
      obtain ⟨a18, c18, rfl, _⟩ := hv18.len
      simp (maxSteps := 2000000) only [B0, B1, B2, B3, B4, B5, B6, B7, Gd, extV, Nat.reduceLT, Nat.reduceEqDiff, Nat.reduceBEq, Nat.reduceAdd, Nat.reduceSub, Nat.reduceMul, ↓reduceIte, reduceCtorEq, if_true, if_false, ite_true, ite_false, Int.reduceLT, Int.reduceLE, ptr, callV_func Try.enters_64, callV_func Try.enters_73, callV_func Try.enters_74, callV_func Try.enters_67, callV_func Try.enters_69, allocV_zero Try.zero_120, Try.st_120, callV_func Try.enters_75, Try.len_109, callV_func Try.enters_70, t5,  t7,  t8,  q9,  Int.cast_ofNat_Int,  Int.reduceEq,  eq_self,  wanted_g (P := Try.prog),  wantB_tt,  wantB_ff,  wantB_tf,  wantB_ft,  wantB_un, rs_tmp (show Try.f11.results = #[.tmp 4] from rfl)]
      refine lwakes_run f.toFreeL f.h70 (by omega) fun σ19 hS19 => ?_
      simp (maxSteps := 2000000) only [B0, B1, B2, B3, B4, B5, B6, B7, Gd, extV, Nat.reduceLT, Nat.reduceEqDiff, Nat.reduceBEq, Nat.reduceAdd, Nat.reduceSub, Nat.reduceMul, ↓reduceIte, reduceCtorEq, if_true, if_false, ite_true, ite_false, Int.reduceLT, Int.reduceLE, ptr, callV_func Try.enters_64, callV_func Try.enters_73, callV_func Try.enters_74, callV_func Try.enters_67, callV_func Try.enters_69, allocV_zero Try.zero_120, Try.st_120, callV_func Try.enters_75, Try.len_109, callV_func Try.enters_70, rs_tmp (show Try.f11.results = #[.tmp 4] from rfl)]
      exact hQ σ19 (w18.same.trans hS19 nofun)
end Go.Proofs.Ytongccpmdndcgaa.Lrn
end
/- The law on stations without room. -/
section
set_option linter.all false
namespace Go.Proofs.Ytongccpmdndcgaa.Lrn
open Go Go.AE Go.Proofs.Ytongccpmdndcgaa.Alm Go.Proofs.Ytongccpmdndcgaa.Tab Go.Sort Go.Proofs Go.RowKit Go.ChangeShapes
set_option maxRecDepth 100000
theorem u16_nat {n : Int} (h : (Lit.int .u16 n).wf = true) : ∃ m : Nat, n = (m : Int) ∧ m < 65536 := by
  simp [Lit.wf, IntKind.min, IntKind.max, IntKind.bits, IntKind.signed] at h
  exact ⟨n.toNat, by omega, by omega⟩
theorem full_law {w : World} {m : Int} (hm : (Lit.int .u16 m).wf = true) (once : Bool) : Calls Try.prog 11 #[.int .u16 m, .bool once] w fun e w' => e = .returned (.bool true) ∧ Below w.heap.size w w' := by
  obtain ⟨m, rfl, _⟩ := u16_nat hm
  exact open_true (σ := ⟨0, .leaf⟩) (ρ := fun _ => none) (by kernel_rfl) toldL nought_rel (fun b o h => nought_get h) (.cons (.atom rfl) (.cons (.atom rfl) .nil)) (full_run freeL (n := 1200) (by omega) fun _ _ => rfl)
end Go.Proofs.Ytongccpmdndcgaa.Lrn
end
