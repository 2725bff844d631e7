/- Texts of this proof, gathered. What each part says stands at its head; conditions: none but those that its theorems name. -/
import Derived.Test.YtongccpmdndcgaaLea
import Derived.Test.YtongccpmdndcgaaTol
import Derived.Test.YtongccpmdndcgaaE4
import Derived.OpenShut
/- Plain laws of the static station. -/
section
set_option linter.all false
namespace Go.Proofs.Ytongccpmdndcgaa.Lrn
open Go Go.AE Go.Proofs.Ytongccpmdndcgaa.Alm Go.Proofs.Ytongccpmdndcgaa.Tab Go.Sort Go.Proofs
set_option maxRecDepth 100000
variable {T : List E}

abbrev kS (d w : Nat) : ByteArray := keyB d [2, 0, 0, 0, 0, w % 8]
theorem kS_size {d w : Nat} : (kS d w).size = 8 := keyB_size rfl
theorem kS_mac {w : Nat} : Mac [2, 0, 0, 0, 0, w % 8] := ⟨rfl, by intro b hb; simp at hb; omega⟩
theorem kS_inj {d e w v : Nat} (hd : d < 65536) (he : e < 65536) (h : kS d w = kS e v) : d = e ∧ w % 8 = v % 8 := by
  have h1 := congrArg kD h
  have h2 := congrArg kM h
  rw [keyB_D hd, keyB_D he] at h1
  rw [keyB_M kS_mac, keyB_M kS_mac] at h2
  simp at h2
  exact ⟨h1, h2⟩
theorem not_bad {k : ByteArray} {t : Int} (h : k.size = 8) (h1 : 0 ≤ t) (h2 : t ≤ 1099511627776) : ¬ bad k t := by unfold bad; omega
/-- Put in a table that has room. -/
theorem putT_room {room : Nat} {ref : Bool} {k : ByteArray} {v t : Int} (h8 : k.size = 8) (h1 : 0 ≤ t) (h2 : t ≤ 1099511627776) (hst : ((getE k T).map (·.2.2.2)).getD false = false) (hr : T.length < room) : putT T room ref k v t = (putE (k, v, t, false) T, zE, 0) := by
  unfold putT
  rw [if_neg (not_bad h8 h1 h2), if_neg (by rw [hst]; simp)]
  unfold layT
  rw [if_neg (by rintro ⟨_, w⟩; omega)]
theorem fixT_room {room : Nat} {ref : Bool} {k : ByteArray} {v : Int} (h8 : k.size = 8) (hr : T.length < room) : fixT T room ref k v = (putE (k, v, 0, true) T, zE, 0) := by
  unfold fixT
  rw [if_neg (not_bad h8 (by omega) (by omega))]
  unfold layT
  rw [if_neg (by rintro ⟨_, w⟩; omega)]
theorem putE_len_le (h : KS T) (e : E) : (putE e T).length ≤ T.length + 1 := by
  rw [putE_len h]; split <;> omega
/-- What See does where there is room. -/
theorem seeT_static {age : Int} {k : ByteArray} {e : E} {p now : Int} (hg : getE k T = some e) (hs : e.2.2.2 = true) : seeT T age k p now = (T, if e.2.1 = p then 0 else 3) := by simp [seeT, hg, hs]
theorem seeT_room {age : Int} {k : ByteArray} {p now : Int} (h8 : k.size = 8) (hst : ((getE k T).map (·.2.2.2)).getD false = false) (ha : age ≠ 0) (h1 : 0 ≤ now + age) (h2 : now + age ≤ 1099511627776) (hr : T.length < 256) :
    seeT T age k p now = (putE (k, p, now + age, false) T, match getE k T with | some e => if e.2.1 = p then 0 else 2 | none => 1) := by
  unfold seeT
  rw [if_neg (by rw [hst]; simp), if_neg ha]
  have : ¬ 1099511627776 < now + age := by omega
  rw [if_neg this, putT_room h8 h1 h2 hst hr]
  simp only [if_true]
  cases getE k T <;> rfl
structure FixI (T : List E) (k0 : ByteArray) (p4 : Int) (m : Nat) : Prop where
  g : getE k0 T = some (k0, p4, 0, true)
  st : ∀ e ∈ T, e.2.2.2 = true → e.1 = k0
  len : T.length ≤ m
theorem FixI.tick {k0 : ByteArray} {p4 : Int} {m : Nat} (h : FixI T k0 p4 m) (hks : KS T) (now : Int) : FixI (restT T now) k0 p4 m := by
  refine ⟨(getE_iff (rest_ks hks now).nd).2 ⟨mem_rest.2 ⟨(getE_key h.g).1, .inl rfl⟩, rfl⟩, fun e he => h.st e (mem_rest.1 he).1, Nat.le_trans (List.length_filter_le _ _) h.len⟩
theorem FixI.see {k0 : ByteArray} {p4 : Int} {m : Nat} (h : FixI T k0 p4 m) (hks : KS T) (hm : m < 256) {k : ByteArray} (h8 : k.size = 8) {p now : Int} (h1 : 0 ≤ now) (h2 : now ≤ 1000) :
    FixI (seeT T 5 k p now).1 k0 p4 (m + 1) ∧ ((seeT T 5 k p now).2 = 3 ↔ k = k0 ∧ p ≠ p4) := by
  by_cases hk : k = k0
  · subst hk
    rw [seeT_static h.g rfl]
    refine ⟨⟨h.g, h.st, by have := h.len; simp only; omega⟩, ?_⟩
    simp only
    by_cases hp : p4 = p
    · simp [hp]
    · rw [if_neg hp]; simp; exact fun e => hp e.symm
  · have hst : ((getE k T).map (·.2.2.2)).getD false = false := by
      cases hg : getE k T with
      | none => rfl
      | some e =>
        obtain ⟨q1, q2⟩ := getE_key hg
        cases hs : e.2.2.2 with
        | false => simp [hs]
        | true => exact absurd ((h.st e q1 hs).symm.trans q2).symm hk
    rw [seeT_room h8 hst (by omega) (by omega) (by omega) (by have := h.len; omega)]
    refine ⟨⟨?_, fun e he hs => ?_, by have := putE_len_le hks (k, p, now + 5, false); have := h.len; simp only; omega⟩, ?_⟩
    · rw [getE_put hks, if_neg (fun w => hk w.symm)]; exact h.g
    · rcases mem_putE.1 he with rfl | ⟨w, _⟩
      · simp at hs
      · exact h.st e w hs
    · have : ∀ o : Option E, (match o with | some e => if e.2.1 = p then (0 : Int) else 2 | none => 1) ≠ 3 := by
        intro o
        cases o with
        | none => simp
        | some e => simp only; split <;> omega
      simp only
      exact ⟨fun w => absurd w (this _), fun w => absurd w.1 hk⟩
theorem sweep_kept_len (g : E → Bool) : ∀ T : List E, (sweepT T g).length + (keptT T g).length = T.length
  | [] => rfl
  | e :: T => by
    have := sweep_kept_len g T
    unfold sweepT keptT at *
    rw [List.filter_cons, List.filter_cons]
    cases e.2.2.2 <;> cases g e <;> simp <;> omega
/-- The static one dropped and seen anew. -/
theorem FixI.again {k0 : ByteArray} {p4 : Int} {m : Nat} (h : FixI T k0 p4 m) (hks : KS T) (hm : m < 256) (h8 : k0.size = 8) {p now : Int} (h1 : 0 ≤ now) (h2 : now ≤ 1000) :
    dropT T k0 = (delE k0 T, 0) ∧ dropT (delE k0 T) k0 = (delE k0 T, 6) ∧ (seeT (delE k0 T) 5 k0 p now).2 = 1 ∧ (seeT (delE k0 T) 5 k0 p now).1.length = T.length := by
  have hg : getE k0 (delE k0 T) = none := by rw [getE_del hks, if_pos rfl]
  have hl := delE_len (k := k0) hks
  rw [h.g] at hl
  simp only [Option.isSome_some, if_true] at hl
  have hlen := h.len
  refine ⟨by simp [dropT, h.g], by simp [dropT, hg], ?_⟩
  rw [seeT_room h8 (by rw [hg]; rfl) (by omega) (by omega) (by omega) (by omega), hg]
  refine ⟨rfl, ?_⟩
  simp only
  rw [putE_len hks.del, hg]
  simp
  omega
theorem FixI.kept {k0 : ByteArray} {p4 : Int} {m : Nat} (h : FixI T k0 p4 m) (hks : KS T) (g : E → Bool) : FixI (keptT T g) k0 p4 m :=
  ⟨(getE_iff (kept_ks hks g).nd).2 ⟨List.mem_filter.2 ⟨(getE_key h.g).1, rfl⟩, rfl⟩, fun e he => h.st e (List.mem_filter.1 he).1, Nat.le_trans (List.length_filter_le _ _) h.len⟩
end Go.Proofs.Ytongccpmdndcgaa.Lrn
end
/- The law on static stations: the run. -/
section
set_option linter.all false
namespace Go.Proofs.Ytongccpmdndcgaa.Lrn
open Go Go.AE Go.Proofs.Ytongccpmdndcgaa.Alm Go.Proofs.Ytongccpmdndcgaa.Tab Go.Sort Go.Proofs
set_option maxRecDepth 100000
set_option maxHeartbeats 4000000
attribute [local irreducible] Go.AE.Tr.put Go.AE.Tr.get
variable {gs : List Nat} {orc : Orc} {n : Nat} {σ : AHeap} {Q : Value × AHeap → Prop}

structure FreeS (orc : Orc) : Prop extends FreeL orc where
  h10 : orc 10 = none
  h11 : orc 11 = none
  h12 : orc 12 = none
  h68 : orc 68 = none
  h70 : orc 70 = none
  h71 : orc 71 = none
  h77 : orc 77 = none
  h133 : orc 133 = none
theorem W_blk_cut {id : Nat} {x : Option (AExit × AFr × AHeap)} {K : AExit × AFr × AHeap → Prop} (R : AFr → AHeap → Prop) (h1 : W x fun r => ∃ fr σ, r = (.exit id, fr, σ) ∧ R fr σ) (h2 : ∀ fr σ, R fr σ → K (.normal, fr, σ)) : W x (KBlk id K) :=
  h1.mono fun r ⟨fr, σ, e, h⟩ => by subst e; rw [KBlk_exit, if_pos rfl]; exact h2 fr σ h
theorem same_all {k : Nat} : ∀ l : List Value, (∀ v ∈ l, sameV k v v = true) → (l.zip l).all (fun (p, q) => sameV k p q) = true
  | [], _ => rfl
  | v :: l, h => by
    rw [List.zip_cons_cons, List.all_cons, same_all l fun u hu => h u (by simp [hu])]
    simp [h v (by simp)]
theorem same_st {y : E} : sameV 6 (.agg (encSt y).toArray) (.agg (encSt y).toArray) = true := by
  show ((encSt y).toArray.size.beq (encSt y).toArray.size && ((encSt y).zip (encSt y)).all fun (p, q) => sameV 5 p q) = true
  rw [same_all _ fun v hv => ?_, Nat.beq_refl]
  · rfl
  · simp [encSt, mcs, kM] at hv
    rcases hv with rfl | rfl | rfl | rfl | rfl | rfl | rfl | rfl | rfl | rfl <;> simp [sameV]
abbrev Sn := Nat × Nat × Nat × Nat
def encSn (x : Sn) : List Value := [.int .u8 (x.1 : Int), .int .u8 (x.2.1 : Int), .int .u8 (x.2.2.1 : Int), .int .u8 (x.2.2.2 : Int)]
theorem encSnOk : Enc 4 encSn := ⟨fun _ => rfl, fun x v hv => by simp [encSn] at hv; rcases hv with rfl | rfl | rfl | rfl <;> rfl, by omega⟩
theorem staw (d w : Nat) (hd : okDom (d : Int)) : Sta d [2, 0, 0, 0, 0, w % 8] := sta_of hd (by omega)
theorem fixed_run (f : FreeS orc) {pp fl : Nat} {v : Value} {L : List Sn} (hv : SlR σ 4 encSn v L) (hn : 1100 ≤ n) (hQ : ∀ σ', Same σ σ' [] → Q (.bool true, σ')) : W (acall Try.prog gs orc (n + 20) 12 [.int .u8 (pp : Int), v, .int .u8 (fl : Int)] σ) Q := by
  obtain ⟨a0, c0, rfl⟩ := hv.len
  have hwp : IntKind.i64.wrap ((pp % 4 : Nat) : Int) = ((pp % 4 : Nat) : Int) := wrap64 (by omega) (by omega)
  have hwf : IntKind.i64.wrap ((fl % 4 : Nat) : Int) = ((fl % 4 : Nat) : Int) := wrap64 (by omega) (by omega)
  have hk0 : ∀ w, (kS 1 w).size = 8 := fun w => kS_size
  rw [W_start (m := 192) (keep := [11, 25]) Try.func12 rfl (by kernel_rfl) (by kernel_rfl) (by first | rfl | assumption | exact f.h12) (by rfl)]
  simp (maxSteps := 2000000) only [B0, B1, B2, B3, B4, B5, B6, B7, Gd, extV, Nat.reduceLT, Nat.reduceEqDiff, Nat.reduceBEq, Nat.reduceAdd, Nat.reduceSub, Nat.reduceMul, ↓reduceIte, reduceCtorEq, if_true, if_false, ite_true, ite_false, Int.reduceLT, Int.reduceLE, ptr, callV_func Try.enters_64, callV_func Try.enters_68, callV_func Try.enters_74, Try.len_100, Try.ia_100, Try.ld_108, allocV_zero Try.zero_108, Try.st_108, Try.fa_108_3, Try.ld_5, callV_func Try.enters_65, Try.fa_108_0, Try.fa_108_2, callV_func Try.enters_67, callV_func Try.enters_69, allocV_zero Try.zero_120, Try.st_120, Try.fa_120_4, Try.ld_4, Try.fa_120_2, Try.ld_3, Try.fa_120_3, Try.ld_2, callV_func Try.enters_75, callV_func Try.enters_76, Try.len_109, Try.ia_109, Try.ld_120, callV_func Try.enters_77, callV_func Try.enters_78, callV_func Try.enters_70, rs_tmp (show Try.f12.results = #[.tmp 6] from rfl)]
  refine lnew_run (t := 5) f.toFreeL (by omega) (by omega) fun σ1 s tp F h1 hs1 hF1 hS1 => ?_
  have w1 : LO σ σ1 s tp F [] 5 := ⟨h1, hF1, hs1, hS1⟩
  simp (maxSteps := 2000000) only [B0, B1, B2, B3, B4, B5, B6, B7, Gd, extV, Nat.reduceLT, Nat.reduceEqDiff, Nat.reduceBEq, Nat.reduceAdd, Nat.reduceSub, Nat.reduceMul, ↓reduceIte, reduceCtorEq, if_true, if_false, ite_true, ite_false, Int.reduceLT, Int.reduceLE, ptr, callV_func Try.enters_64, callV_func Try.enters_68, callV_func Try.enters_74, Try.len_100, Try.ia_100, Try.ld_108, allocV_zero Try.zero_108, Try.st_108, Try.fa_108_3, Try.ld_5, callV_func Try.enters_65, Try.fa_108_0, Try.fa_108_2, callV_func Try.enters_67, callV_func Try.enters_69, allocV_zero Try.zero_120, Try.st_120, Try.fa_120_4, Try.ld_4, Try.fa_120_2, Try.ld_3, Try.fa_120_3, Try.ld_2, callV_func Try.enters_75, callV_func Try.enters_76, Try.len_109, Try.ia_109, Try.ld_120, callV_func Try.enters_77, callV_func Try.enters_78, callV_func Try.enters_70, Int.reduceEq, rs_tmp (show Try.f12.results = #[.tmp 6] from rfl)]
  refine station_run (w := 0) f.h68 fun σ2 hS2 => ?_
  have w2 := w1.step hS2
  simp (maxSteps := 2000000) only [B0, B1, B2, B3, B4, B5, B6, B7, Gd, extV, Nat.reduceLT, Nat.reduceEqDiff, Nat.reduceBEq, Nat.reduceAdd, Nat.reduceSub, Nat.reduceMul, ↓reduceIte, reduceCtorEq, if_true, if_false, ite_true, ite_false, Int.reduceLT, Int.reduceLE, ptr, callV_func Try.enters_64, callV_func Try.enters_68, callV_func Try.enters_74, Try.len_100, Try.ia_100, Try.ld_108, allocV_zero Try.zero_108, Try.st_108, Try.fa_108_3, Try.ld_5, callV_func Try.enters_65, Try.fa_108_0, Try.fa_108_2, callV_func Try.enters_67, callV_func Try.enters_69, allocV_zero Try.zero_120, Try.st_120, Try.fa_120_4, Try.ld_4, Try.fa_120_2, Try.ld_3, Try.fa_120_3, Try.ld_2, callV_func Try.enters_75, callV_func Try.enters_76, Try.len_109, Try.ia_109, Try.ld_120, callV_func Try.enters_77, callV_func Try.enters_78, callV_func Try.enters_70, rem4,  conv_int Try.underlying5 Try.underlying3,  hwp, rs_tmp (show Try.f12.results = #[.tmp 6] from rfl)]
  refine lfix_run (d := 1) (p := ((pp % 4 : Nat) : Int)) f.toFreeL w2.h (staw 1 0 (by unfold okDom; omega)) (by omega) (by omega) fun σ3 F3 h3 hF3 hS3 => ?_
  have w3 := w2.call h3 hF3 hS3
  have hfx : fixT [] 256 false (kS 1 0) ((pp % 4 : Nat) : Int) = ([(kS 1 0, ((pp % 4 : Nat) : Int), 0, true)], zE, 0) := by rw [fixT_room kS_size (by simp)]; rfl
  rw [hfx] at w3 ⊢
  have hI3 : FixI [(kS 1 0, ((pp % 4 : Nat) : Int), 0, true)] (kS 1 0) ((pp % 4 : Nat) : Int) 1 := ⟨by simp [getE], by simp, by simp⟩
  simp (maxSteps := 2000000) only [B0, B1, B2, B3, B4, B5, B6, B7, Gd, extV, Nat.reduceLT, Nat.reduceEqDiff, Nat.reduceBEq, Nat.reduceAdd, Nat.reduceSub, Nat.reduceMul, ↓reduceIte, reduceCtorEq, if_true, if_false, ite_true, ite_false, Int.reduceLT, Int.reduceLE, ptr, callV_func Try.enters_64, callV_func Try.enters_68, callV_func Try.enters_74, Try.len_100, Try.ia_100, Try.ld_108, allocV_zero Try.zero_108, Try.st_108, Try.fa_108_3, Try.ld_5, callV_func Try.enters_65, Try.fa_108_0, Try.fa_108_2, callV_func Try.enters_67, callV_func Try.enters_69, allocV_zero Try.zero_120, Try.st_120, Try.fa_120_4, Try.ld_4, Try.fa_120_2, Try.ld_3, Try.fa_120_3, Try.ld_2, callV_func Try.enters_75, callV_func Try.enters_76, Try.len_109, Try.ia_109, Try.ld_120, callV_func Try.enters_77, callV_func Try.enters_78, callV_func Try.enters_70, Int.reduceEq, rs_tmp (show Try.f12.results = #[.tmp 6] from rfl)]
  refine W_blk_cut (fun fr σ' => ∃ (t : Tr Value) (F : List Nat) (T : List E) (now : Int), fr = ⟨192, t⟩ ∧ t.get 2 = some (.int .u8 (fl : Int)) ∧ t.get 7 = some (pt s) ∧ t.get 9 = some (.int .i64 now) ∧ LO σ σ' s tp F T 5 ∧ FixI T (kS 1 0) ((pp % 4 : Nat) : Int) 41 ∧ 0 ≤ now ∧ now ≤ 280) ?_ ?_
  · refine W_inv (fun k fr σ' => ∃ (t : Tr Value) (i : Nat) (F : List Nat) (T : List E) (now : Int), fr = ⟨192, t⟩ ∧ t.get 0 = some (.int .u8 (pp : Int)) ∧ t.get 2 = some (.int .u8 (fl : Int)) ∧ t.get 7 = some (pt s) ∧ t.get 9 = some (.int .i64 now) ∧ t.get 39 = some (.slice a0 L.length c0) ∧ t.get 40 = some (.int .i64 (L.length : Int)) ∧ t.get 41 = some (.int .i64 (i : Int)) ∧ k + i = 40 ∧ LO σ σ' s tp F T 5 ∧ FixI T (kS 1 0) ((pp % 4 : Nat) : Int) (1 + i) ∧ 0 ≤ now ∧ now ≤ 7 * i) 40 (by omega)
      ⟨_, 0, F3, _, 0, rfl, by simp [get_put, get_args], by simp [get_put, get_args], by simp [get_put], by simp [get_put], by simp [get_put, get_args], by simp [get_put], by simp [get_put], rfl, w3, hI3, by omega, by omega⟩ ?_
    clear w1 w2 w3 h3 hF3 hI3 h1 hF1
    rintro k fr σ4 ⟨t, i, F, T, now, rfl, t0, t2, t7, t9, t39, t40, t41, hk, w4, hI4, hn0, hn1⟩
    by_cases hlt : i < L.length
    · have hx := List.getElem?_eq_getElem hlt
      generalize L[i] = x at hx
      obtain ⟨bb, o, cap, e, hb, hld⟩ := hv.at_ hx
      injection e with e _ e3
      subst e e3
      have hld4 : ldCells σ4 bb (o + i * 4) 4 = some (encSn x) := by rw [w4.same.ldCells hb nofun]; exact hld
      obtain ⟨who, dm, prt, lat⟩ := x
      have hlt' : ((i : Int) < (L.length : Int)) = True := eq_true (by omega)
      obtain ⟨σ5, σ6, e5, t6', w6, x6, hS6, _⟩ := w4.var 108 [.int .u8 0, .int .u8 0, .int .u8 0, .int .u8 0] (encSn (who, dm, prt, lat)) rfl (encSnOk.single _)
      simp only [encSn] at hld4 t6' x6
      by_cases h40 : i = 40
      · have h40' : ((i : Int) = 40) = True := eq_true (by omega)
        simp (maxSteps := 2000000) only [B0, B1, B2, B3, B4, B5, B6, B7, Gd, extV, Nat.reduceLT, Nat.reduceEqDiff, Nat.reduceBEq, Nat.reduceAdd, Nat.reduceSub, Nat.reduceMul, ↓reduceIte, reduceCtorEq, if_true, if_false, ite_true, ite_false, Int.reduceLT, Int.reduceLE, ptr, callV_func Try.enters_64, callV_func Try.enters_68, callV_func Try.enters_74, Try.len_100, Try.ia_100, Try.ld_108, allocV_zero Try.zero_108, Try.st_108, Try.fa_108_3, Try.ld_5, callV_func Try.enters_65, Try.fa_108_0, Try.fa_108_2, callV_func Try.enters_67, callV_func Try.enters_69, allocV_zero Try.zero_120, Try.st_120, Try.fa_120_4, Try.ld_4, Try.fa_120_2, Try.ld_3, Try.fa_120_3, Try.ld_2, callV_func Try.enters_75, callV_func Try.enters_76, Try.len_109, Try.ia_109, Try.ld_120, callV_func Try.enters_77, callV_func Try.enters_78, callV_func Try.enters_70, t0,  t2,  t7,  t9,  t39,  t40,  t41,  hlt',  hlt,  hld4,  e5,  t6',  Value.cells,  List.size_toArray,  h40', rs_tmp (show Try.f12.results = #[.tmp 6] from rfl)]
        exact ⟨_, _, rfl, _, F, T, now, rfl, by simp [get_put, t2], by simp [get_put, t7], by simp [get_put, t9], w6, by rw [h40] at hI4; exact hI4, hn0, by omega⟩
      · have h40' : ((i : Int) = 40) = False := eq_false (by omega)
        have y3 := x6.v.ld (o := 3) rfl
        have hwl : IntKind.i64.wrap ((lat % 8 : Nat) : Int) = ((lat % 8 : Nat) : Int) := wrap64 (by omega) (by omega)
        have hwn : IntKind.i64.wrap (now + ((lat % 8 : Nat) : Int)) = now + ((lat % 8 : Nat) : Int) := wrap64 (by omega) (by omega)
        have hwr : IntKind.i64.wrap ((prt % 4 : Nat) : Int) = ((prt % 4 : Nat) : Int) := wrap64 (by omega) (by omega)
        have hw1 : IntKind.i64.wrap ((i : Int) + 1) = ((i + 1 : Nat) : Int) := wrap64 (by omega) (by omega)
        simp (maxSteps := 2000000) only [B0, B1, B2, B3, B4, B5, B6, B7, Gd, extV, Nat.reduceLT, Nat.reduceEqDiff, Nat.reduceBEq, Nat.reduceAdd, Nat.reduceSub, Nat.reduceMul, ↓reduceIte, reduceCtorEq, if_true, if_false, ite_true, ite_false, Int.reduceLT, Int.reduceLE, ptr, callV_func Try.enters_64, callV_func Try.enters_68, callV_func Try.enters_74, Try.len_100, Try.ia_100, Try.ld_108, allocV_zero Try.zero_108, Try.st_108, Try.fa_108_3, Try.ld_5, callV_func Try.enters_65, Try.fa_108_0, Try.fa_108_2, callV_func Try.enters_67, callV_func Try.enters_69, allocV_zero Try.zero_120, Try.st_120, Try.fa_120_4, Try.ld_4, Try.fa_120_2, Try.ld_3, Try.fa_120_3, Try.ld_2, callV_func Try.enters_75, callV_func Try.enters_76, Try.len_109, Try.ia_109, Try.ld_120, callV_func Try.enters_77, callV_func Try.enters_78, callV_func Try.enters_70, t0,  t2,  t7,  t9,  t39,  t40,  t41,  hlt',  hlt,  hld4,  e5,  t6',  Value.cells,  List.size_toArray,  h40',  y3,  rem8,  conv_int Try.underlying5 Try.underlying2,  hwl,  hwn, rs_tmp (show Try.f12.results = #[.tmp 6] from rfl)]
        refine ltick_run f.toFreeL w6.h (now + ((lat % 8 : Nat) : Int)) (by omega) fun σ7 v7 h7 hv7 hb7 hS7 => ?_
        have w7 := w6.call h7 (fun b hb => .inl hb) hS7
        have x7 := x6.call (fun b hb => .inl hb) hS7
        have hI7 := hI4.tick w6.h.tab.ks (now + ((lat % 8 : Nat) : Int))
        have z0 := x7.v.ld (o := 0) rfl
        have z2 := x7.v.ld (o := 2) rfl
        simp (maxSteps := 2000000) only [B0, B1, B2, B3, B4, B5, B6, B7, Gd, extV, Nat.reduceLT, Nat.reduceEqDiff, Nat.reduceBEq, Nat.reduceAdd, Nat.reduceSub, Nat.reduceMul, ↓reduceIte, reduceCtorEq, if_true, if_false, ite_true, ite_false, Int.reduceLT, Int.reduceLE, ptr, callV_func Try.enters_64, callV_func Try.enters_68, callV_func Try.enters_74, Try.len_100, Try.ia_100, Try.ld_108, allocV_zero Try.zero_108, Try.st_108, Try.fa_108_3, Try.ld_5, callV_func Try.enters_65, Try.fa_108_0, Try.fa_108_2, callV_func Try.enters_67, callV_func Try.enters_69, allocV_zero Try.zero_120, Try.st_120, Try.fa_120_4, Try.ld_4, Try.fa_120_2, Try.ld_3, Try.fa_120_3, Try.ld_2, callV_func Try.enters_75, callV_func Try.enters_76, Try.len_109, Try.ia_109, Try.ld_120, callV_func Try.enters_77, callV_func Try.enters_78, callV_func Try.enters_70, rs_tmp (show Try.f12.results = #[.tmp 6] from rfl)]
        refine Eq.mpr (W_retold (ps := [(3, 5), (3, 7)]) (by kernel_rfl) (by kernel_rfl) (by simp)) ?_
        simp (maxSteps := 2000000) only [B0, B1, B2, B3, B4, B5, B6, B7, Gd, extV, Nat.reduceLT, Nat.reduceEqDiff, Nat.reduceBEq, Nat.reduceAdd, Nat.reduceSub, Nat.reduceMul, ↓reduceIte, reduceCtorEq, if_true, if_false, ite_true, ite_false, Int.reduceLT, Int.reduceLE, ptr, callV_func Try.enters_64, callV_func Try.enters_68, callV_func Try.enters_74, Try.len_100, Try.ia_100, Try.ld_108, allocV_zero Try.zero_108, Try.st_108, Try.fa_108_3, Try.ld_5, callV_func Try.enters_65, Try.fa_108_0, Try.fa_108_2, callV_func Try.enters_67, callV_func Try.enters_69, allocV_zero Try.zero_120, Try.st_120, Try.fa_120_4, Try.ld_4, Try.fa_120_2, Try.ld_3, Try.fa_120_3, Try.ld_2, callV_func Try.enters_75, callV_func Try.enters_76, Try.len_109, Try.ia_109, Try.ld_120, callV_func Try.enters_77, callV_func Try.enters_78, callV_func Try.enters_70, t7,  z0, rs_tmp (show Try.f12.results = #[.tmp 6] from rfl)]
        refine station_run (w := who) f.h68 fun σ71 hS71 => ?_
        have w71 := w7.step hS71
        have x71 := x7.step hS71
        have u0 := x71.v.ld (o := 0) rfl
        have u2 := x71.v.ld (o := 2) rfl
        simp (maxSteps := 2000000) only [B0, B1, B2, B3, B4, B5, B6, B7, Gd, extV, Nat.reduceLT, Nat.reduceEqDiff, Nat.reduceBEq, Nat.reduceAdd, Nat.reduceSub, Nat.reduceMul, ↓reduceIte, reduceCtorEq, if_true, if_false, ite_true, ite_false, Int.reduceLT, Int.reduceLE, ptr, callV_func Try.enters_64, callV_func Try.enters_68, callV_func Try.enters_74, Try.len_100, Try.ia_100, Try.ld_108, allocV_zero Try.zero_108, Try.st_108, Try.fa_108_3, Try.ld_5, callV_func Try.enters_65, Try.fa_108_0, Try.fa_108_2, callV_func Try.enters_67, callV_func Try.enters_69, allocV_zero Try.zero_120, Try.st_120, Try.fa_120_4, Try.ld_4, Try.fa_120_2, Try.ld_3, Try.fa_120_3, Try.ld_2, callV_func Try.enters_75, callV_func Try.enters_76, Try.len_109, Try.ia_109, Try.ld_120, callV_func Try.enters_77, callV_func Try.enters_78, callV_func Try.enters_70, z0,  z2,  u0,  u2,  rem4,  conv_int Try.underlying5 Try.underlying3,  hwr, rs_tmp (show Try.f12.results = #[.tmp 6] from rfl)]
        refine lsee_run (d := 1) (p := ((prt % 4 : Nat) : Int)) (now := now + ((lat % 8 : Nat) : Int)) f.toFreeL w71.h (staw 1 who (by unfold okDom; omega)) (by omega) (by omega) (by omega) (by omega) fun σ8 F8 h8 hF8 hS8 => ?_
        have w8 := w71.call h8 hF8 hS8
        have x8 := x71.call hF8 hS8
        obtain ⟨hI8, htold⟩ := hI7.see w71.h.tab.ks (by omega) (kS_size (d := 1) (w := who)) (p := ((prt % 4 : Nat) : Int)) (now := now + ((lat % 8 : Nat) : Int)) (by omega) (by omega)
        have q0 := x8.v.ld (o := 0) rfl
        have q2 := x8.v.ld (o := 2) rfl
        generalize hT8 : seeT (restT T (now + ((lat % 8 : Nat) : Int))) 5 (kS 1 who) ((prt % 4 : Nat) : Int) (now + ((lat % 8 : Nat) : Int)) = R8 at *
        simp (maxSteps := 2000000) only [B0, B1, B2, B3, B4, B5, B6, B7, Gd, extV, Nat.reduceLT, Nat.reduceEqDiff, Nat.reduceBEq, Nat.reduceAdd, Nat.reduceSub, Nat.reduceMul, ↓reduceIte, reduceCtorEq, if_true, if_false, ite_true, ite_false, Int.reduceLT, Int.reduceLE, ptr, callV_func Try.enters_64, callV_func Try.enters_68, callV_func Try.enters_74, Try.len_100, Try.ia_100, Try.ld_108, allocV_zero Try.zero_108, Try.st_108, Try.fa_108_3, Try.ld_5, callV_func Try.enters_65, Try.fa_108_0, Try.fa_108_2, callV_func Try.enters_67, callV_func Try.enters_69, allocV_zero Try.zero_120, Try.st_120, Try.fa_120_4, Try.ld_4, Try.fa_120_2, Try.ld_3, Try.fa_120_3, Try.ld_2, callV_func Try.enters_75, callV_func Try.enters_76, Try.len_109, Try.ia_109, Try.ld_120, callV_func Try.enters_77, callV_func Try.enters_78, callV_func Try.enters_70, z0,  z2,  u0,  u2,  rem4,  rem8,  conv_int Try.underlying5 Try.underlying3,  hwr,  q0,  q2,  t0, rs_tmp (show Try.f12.results = #[.tmp 6] from rfl)]
        by_cases hw0 : who % 8 = 0
        · have hkk : kS 1 who = kS 1 0 := by unfold kS; rw [hw0]
          have c1 : (((who % 8 : Nat) : Int) = 0) = True := eq_true (by omega)
          by_cases hp4 : prt % 4 = pp % 4
          · have c2 : (((prt % 4 : Nat) : Int) = ((pp % 4 : Nat) : Int)) = True := eq_true (by omega)
            have c3 : (R8.2 = 3) = False := eq_false fun w => (htold.1 w).2 (by omega)
            simp (maxSteps := 2000000) only [B0, B1, B2, B3, B4, B5, B6, B7, Gd, extV, Nat.reduceLT, Nat.reduceEqDiff, Nat.reduceBEq, Nat.reduceAdd, Nat.reduceSub, Nat.reduceMul, ↓reduceIte, reduceCtorEq, if_true, if_false, ite_true, ite_false, Int.reduceLT, Int.reduceLE, ptr, callV_func Try.enters_64, callV_func Try.enters_68, callV_func Try.enters_74, Try.len_100, Try.ia_100, Try.ld_108, allocV_zero Try.zero_108, Try.st_108, Try.fa_108_3, Try.ld_5, callV_func Try.enters_65, Try.fa_108_0, Try.fa_108_2, callV_func Try.enters_67, callV_func Try.enters_69, allocV_zero Try.zero_120, Try.st_120, Try.fa_120_4, Try.ld_4, Try.fa_120_2, Try.ld_3, Try.fa_120_3, Try.ld_2, callV_func Try.enters_75, callV_func Try.enters_76, Try.len_109, Try.ia_109, Try.ld_120, callV_func Try.enters_77, callV_func Try.enters_78, callV_func Try.enters_70, c1,  c2,  c3,  q0,  q2,  t0,  t7,  rem4,  rem8,  wanted_g (P := Try.prog),  wantB_tt,  wantB_ff,  wantB_tf,  wantB_ft,  wantB_un,  bin_bneq Try.underlying4,  decide_true,  decide_false, rs_tmp (show Try.f12.results = #[.tmp 6] from rfl)]
            refine station_run (w := 0) f.h68 fun σ9 hS9 => ?_
            have w9 := w8.step hS9
            simp (maxSteps := 2000000) only [B0, B1, B2, B3, B4, B5, B6, B7, Gd, extV, Nat.reduceLT, Nat.reduceEqDiff, Nat.reduceBEq, Nat.reduceAdd, Nat.reduceSub, Nat.reduceMul, ↓reduceIte, reduceCtorEq, if_true, if_false, ite_true, ite_false, Int.reduceLT, Int.reduceLE, ptr, callV_func Try.enters_64, callV_func Try.enters_68, callV_func Try.enters_74, Try.len_100, Try.ia_100, Try.ld_108, allocV_zero Try.zero_108, Try.st_108, Try.fa_108_3, Try.ld_5, callV_func Try.enters_65, Try.fa_108_0, Try.fa_108_2, callV_func Try.enters_67, callV_func Try.enters_69, allocV_zero Try.zero_120, Try.st_120, Try.fa_120_4, Try.ld_4, Try.fa_120_2, Try.ld_3, Try.fa_120_3, Try.ld_2, callV_func Try.enters_75, callV_func Try.enters_76, Try.len_109, Try.ia_109, Try.ld_120, callV_func Try.enters_77, callV_func Try.enters_78, callV_func Try.enters_70, t0,  t2,  t7,  t39,  t40,  t41, rs_tmp (show Try.f12.results = #[.tmp 6] from rfl)]
            refine lfind_run (d := 1) f.toFreeL w9.h (staw 1 0 (by unfold okDom; omega)) (by omega) fun σ10 hS10 => ?_
            have w10 := w9.step hS10
            have hgg := hI8.g
            rw [hgg]
            obtain ⟨σ11, σ12, e11, t12', w12, x12, hS12, _⟩ := w10.var 120 zSt (encSt (kS 1 0, ((pp % 4 : Nat) : Int), 0, true)) rfl (encStOk.single _)
            have htl : (encSt (kS 1 0, ((pp % 4 : Nat) : Int), 0, true)).toArray.toList = encSt (kS 1 0, ((pp % 4 : Nat) : Int), 0, true) := rfl
            have hsz : (encSt (kS 1 0, ((pp % 4 : Nat) : Int), 0, true)).toArray.size = 10 := rfl
            have y7 : ld σ12 σ10.next 7 = some (.int .i64 ((pp % 4 : Nat) : Int)) := x12.v.ld rfl
            have y8 : ld σ12 σ10.next 8 = some (.int .i64 0) := x12.v.ld rfl
            have y9 : ld σ12 σ10.next 9 = some (.bool true) := x12.v.ld rfl
            simp (maxSteps := 2000000) only [B0, B1, B2, B3, B4, B5, B6, B7, Gd, extV, Nat.reduceLT, Nat.reduceEqDiff, Nat.reduceBEq, Nat.reduceAdd, Nat.reduceSub, Nat.reduceMul, ↓reduceIte, reduceCtorEq, if_true, if_false, ite_true, ite_false, Int.reduceLT, Int.reduceLE, ptr, callV_func Try.enters_64, callV_func Try.enters_68, callV_func Try.enters_74, Try.len_100, Try.ia_100, Try.ld_108, allocV_zero Try.zero_108, Try.st_108, Try.fa_108_3, Try.ld_5, callV_func Try.enters_65, Try.fa_108_0, Try.fa_108_2, callV_func Try.enters_67, callV_func Try.enters_69, allocV_zero Try.zero_120, Try.st_120, Try.fa_120_4, Try.ld_4, Try.fa_120_2, Try.ld_3, Try.fa_120_3, Try.ld_2, callV_func Try.enters_75, callV_func Try.enters_76, Try.len_109, Try.ia_109, Try.ld_120, callV_func Try.enters_77, callV_func Try.enters_78, callV_func Try.enters_70, t0,  t2,  t7,  t39,  t40,  t41,  Option.map_some,  Option.getD_some,  Option.isSome_some,  zst,  Value.cells,  htl,  hsz,  e11,  t12',  y7,  y8,  y9,  rem4,  conv_int Try.underlying5 Try.underlying3,  hwp,  eq_self,  Int.reduceEq,  hw1,  KInv_normal, rs_tmp (show Try.f12.results = #[.tmp 6] from rfl)]
            exact ⟨40 - (i + 1), by omega, _, i + 1, F8, R8.1, now + ((lat % 8 : Nat) : Int), rfl, by simp [get_put, t0], by simp [get_put, t2], by simp [get_put, t7], by simp [get_put], by simp [get_put, t39], by simp [get_put, t40], by simp [get_put], by omega, w12, hI8, by omega, by omega⟩
          · have c2 : (((prt % 4 : Nat) : Int) = ((pp % 4 : Nat) : Int)) = False := eq_false (by omega)
            have c3 : (R8.2 = 3) = True := eq_true (htold.2 ⟨hkk, by omega⟩)
            simp (maxSteps := 2000000) only [B0, B1, B2, B3, B4, B5, B6, B7, Gd, extV, Nat.reduceLT, Nat.reduceEqDiff, Nat.reduceBEq, Nat.reduceAdd, Nat.reduceSub, Nat.reduceMul, ↓reduceIte, reduceCtorEq, if_true, if_false, ite_true, ite_false, Int.reduceLT, Int.reduceLE, ptr, callV_func Try.enters_64, callV_func Try.enters_68, callV_func Try.enters_74, Try.len_100, Try.ia_100, Try.ld_108, allocV_zero Try.zero_108, Try.st_108, Try.fa_108_3, Try.ld_5, callV_func Try.enters_65, Try.fa_108_0, Try.fa_108_2, callV_func Try.enters_67, callV_func Try.enters_69, allocV_zero Try.zero_120, Try.st_120, Try.fa_120_4, Try.ld_4, Try.fa_120_2, Try.ld_3, Try.fa_120_3, Try.ld_2, callV_func Try.enters_75, callV_func Try.enters_76, Try.len_109, Try.ia_109, Try.ld_120, callV_func Try.enters_77, callV_func Try.enters_78, callV_func Try.enters_70, c1,  c2,  c3,  q0,  q2,  t0,  t7,  rem4,  rem8,  wanted_g (P := Try.prog),  wantB_tt,  wantB_ff,  wantB_tf,  wantB_ft,  wantB_un,  bin_bneq Try.underlying4,  decide_true,  decide_false, rs_tmp (show Try.f12.results = #[.tmp 6] from rfl)]
            refine station_run (w := 0) f.h68 fun σ9 hS9 => ?_
            have w9 := w8.step hS9
            simp (maxSteps := 2000000) only [B0, B1, B2, B3, B4, B5, B6, B7, Gd, extV, Nat.reduceLT, Nat.reduceEqDiff, Nat.reduceBEq, Nat.reduceAdd, Nat.reduceSub, Nat.reduceMul, ↓reduceIte, reduceCtorEq, if_true, if_false, ite_true, ite_false, Int.reduceLT, Int.reduceLE, ptr, callV_func Try.enters_64, callV_func Try.enters_68, callV_func Try.enters_74, Try.len_100, Try.ia_100, Try.ld_108, allocV_zero Try.zero_108, Try.st_108, Try.fa_108_3, Try.ld_5, callV_func Try.enters_65, Try.fa_108_0, Try.fa_108_2, callV_func Try.enters_67, callV_func Try.enters_69, allocV_zero Try.zero_120, Try.st_120, Try.fa_120_4, Try.ld_4, Try.fa_120_2, Try.ld_3, Try.fa_120_3, Try.ld_2, callV_func Try.enters_75, callV_func Try.enters_76, Try.len_109, Try.ia_109, Try.ld_120, callV_func Try.enters_77, callV_func Try.enters_78, callV_func Try.enters_70, t0,  t2,  t7,  t39,  t40,  t41, rs_tmp (show Try.f12.results = #[.tmp 6] from rfl)]
            refine lfind_run (d := 1) f.toFreeL w9.h (staw 1 0 (by unfold okDom; omega)) (by omega) fun σ10 hS10 => ?_
            have w10 := w9.step hS10
            have hgg := hI8.g
            rw [hgg]
            obtain ⟨σ11, σ12, e11, t12', w12, x12, hS12, _⟩ := w10.var 120 zSt (encSt (kS 1 0, ((pp % 4 : Nat) : Int), 0, true)) rfl (encStOk.single _)
            have htl : (encSt (kS 1 0, ((pp % 4 : Nat) : Int), 0, true)).toArray.toList = encSt (kS 1 0, ((pp % 4 : Nat) : Int), 0, true) := rfl
            have hsz : (encSt (kS 1 0, ((pp % 4 : Nat) : Int), 0, true)).toArray.size = 10 := rfl
            have y7 : ld σ12 σ10.next 7 = some (.int .i64 ((pp % 4 : Nat) : Int)) := x12.v.ld rfl
            have y8 : ld σ12 σ10.next 8 = some (.int .i64 0) := x12.v.ld rfl
            have y9 : ld σ12 σ10.next 9 = some (.bool true) := x12.v.ld rfl
            simp (maxSteps := 2000000) only [B0, B1, B2, B3, B4, B5, B6, B7, Gd, extV, Nat.reduceLT, Nat.reduceEqDiff, Nat.reduceBEq, Nat.reduceAdd, Nat.reduceSub, Nat.reduceMul, ↓reduceIte, reduceCtorEq, if_true, if_false, ite_true, ite_false, Int.reduceLT, Int.reduceLE, ptr, callV_func Try.enters_64, callV_func Try.enters_68, callV_func Try.enters_74, Try.len_100, Try.ia_100, Try.ld_108, allocV_zero Try.zero_108, Try.st_108, Try.fa_108_3, Try.ld_5, callV_func Try.enters_65, Try.fa_108_0, Try.fa_108_2, callV_func Try.enters_67, callV_func Try.enters_69, allocV_zero Try.zero_120, Try.st_120, Try.fa_120_4, Try.ld_4, Try.fa_120_2, Try.ld_3, Try.fa_120_3, Try.ld_2, callV_func Try.enters_75, callV_func Try.enters_76, Try.len_109, Try.ia_109, Try.ld_120, callV_func Try.enters_77, callV_func Try.enters_78, callV_func Try.enters_70, t0,  t2,  t7,  t39,  t40,  t41,  Option.map_some,  Option.getD_some,  Option.isSome_some,  zst,  Value.cells,  htl,  hsz,  e11,  t12',  y7,  y8,  y9,  rem4,  conv_int Try.underlying5 Try.underlying3,  hwp,  eq_self,  Int.reduceEq,  hw1,  KInv_normal, rs_tmp (show Try.f12.results = #[.tmp 6] from rfl)]
            exact ⟨40 - (i + 1), by omega, _, i + 1, F8, R8.1, now + ((lat % 8 : Nat) : Int), rfl, by simp [get_put, t0], by simp [get_put, t2], by simp [get_put, t7], by simp [get_put], by simp [get_put, t39], by simp [get_put, t40], by simp [get_put], by omega, w12, hI8, by omega, by omega⟩
        · have c1 : (((who % 8 : Nat) : Int) = 0) = False := eq_false (by omega)
          have c3 : (R8.2 = 3) = False := eq_false fun w => by
            have := (kS_inj (by omega) (by omega) (htold.1 w).1).2
            omega
          simp (maxSteps := 2000000) only [B0, B1, B2, B3, B4, B5, B6, B7, Gd, extV, Nat.reduceLT, Nat.reduceEqDiff, Nat.reduceBEq, Nat.reduceAdd, Nat.reduceSub, Nat.reduceMul, ↓reduceIte, reduceCtorEq, if_true, if_false, ite_true, ite_false, Int.reduceLT, Int.reduceLE, ptr, callV_func Try.enters_64, callV_func Try.enters_68, callV_func Try.enters_74, Try.len_100, Try.ia_100, Try.ld_108, allocV_zero Try.zero_108, Try.st_108, Try.fa_108_3, Try.ld_5, callV_func Try.enters_65, Try.fa_108_0, Try.fa_108_2, callV_func Try.enters_67, callV_func Try.enters_69, allocV_zero Try.zero_120, Try.st_120, Try.fa_120_4, Try.ld_4, Try.fa_120_2, Try.ld_3, Try.fa_120_3, Try.ld_2, callV_func Try.enters_75, callV_func Try.enters_76, Try.len_109, Try.ia_109, Try.ld_120, callV_func Try.enters_77, callV_func Try.enters_78, callV_func Try.enters_70, c1,  c1,  c3,  q0,  q2,  t0,  t7,  rem4,  rem8,  wanted_g (P := Try.prog),  wantB_tt,  wantB_ff,  wantB_tf,  wantB_ft,  wantB_un,  bin_bneq Try.underlying4,  decide_true,  decide_false, rs_tmp (show Try.f12.results = #[.tmp 6] from rfl)]
          refine station_run (w := 0) f.h68 fun σ9 hS9 => ?_
          have w9 := w8.step hS9
          simp (maxSteps := 2000000) only [B0, B1, B2, B3, B4, B5, B6, B7, Gd, extV, Nat.reduceLT, Nat.reduceEqDiff, Nat.reduceBEq, Nat.reduceAdd, Nat.reduceSub, Nat.reduceMul, ↓reduceIte, reduceCtorEq, if_true, if_false, ite_true, ite_false, Int.reduceLT, Int.reduceLE, ptr, callV_func Try.enters_64, callV_func Try.enters_68, callV_func Try.enters_74, Try.len_100, Try.ia_100, Try.ld_108, allocV_zero Try.zero_108, Try.st_108, Try.fa_108_3, Try.ld_5, callV_func Try.enters_65, Try.fa_108_0, Try.fa_108_2, callV_func Try.enters_67, callV_func Try.enters_69, allocV_zero Try.zero_120, Try.st_120, Try.fa_120_4, Try.ld_4, Try.fa_120_2, Try.ld_3, Try.fa_120_3, Try.ld_2, callV_func Try.enters_75, callV_func Try.enters_76, Try.len_109, Try.ia_109, Try.ld_120, callV_func Try.enters_77, callV_func Try.enters_78, callV_func Try.enters_70, t0,  t2,  t7,  t39,  t40,  t41, rs_tmp (show Try.f12.results = #[.tmp 6] from rfl)]
          refine lfind_run (d := 1) f.toFreeL w9.h (staw 1 0 (by unfold okDom; omega)) (by omega) fun σ10 hS10 => ?_
          have w10 := w9.step hS10
          have hgg := hI8.g
          rw [hgg]
          obtain ⟨σ11, σ12, e11, t12', w12, x12, hS12, _⟩ := w10.var 120 zSt (encSt (kS 1 0, ((pp % 4 : Nat) : Int), 0, true)) rfl (encStOk.single _)
          have htl : (encSt (kS 1 0, ((pp % 4 : Nat) : Int), 0, true)).toArray.toList = encSt (kS 1 0, ((pp % 4 : Nat) : Int), 0, true) := rfl
          have hsz : (encSt (kS 1 0, ((pp % 4 : Nat) : Int), 0, true)).toArray.size = 10 := rfl
          have y7 : ld σ12 σ10.next 7 = some (.int .i64 ((pp % 4 : Nat) : Int)) := x12.v.ld rfl
          have y8 : ld σ12 σ10.next 8 = some (.int .i64 0) := x12.v.ld rfl
          have y9 : ld σ12 σ10.next 9 = some (.bool true) := x12.v.ld rfl
          simp (maxSteps := 2000000) only [B0, B1, B2, B3, B4, B5, B6, B7, Gd, extV, Nat.reduceLT, Nat.reduceEqDiff, Nat.reduceBEq, Nat.reduceAdd, Nat.reduceSub, Nat.reduceMul, ↓reduceIte, reduceCtorEq, if_true, if_false, ite_true, ite_false, Int.reduceLT, Int.reduceLE, ptr, callV_func Try.enters_64, callV_func Try.enters_68, callV_func Try.enters_74, Try.len_100, Try.ia_100, Try.ld_108, allocV_zero Try.zero_108, Try.st_108, Try.fa_108_3, Try.ld_5, callV_func Try.enters_65, Try.fa_108_0, Try.fa_108_2, callV_func Try.enters_67, callV_func Try.enters_69, allocV_zero Try.zero_120, Try.st_120, Try.fa_120_4, Try.ld_4, Try.fa_120_2, Try.ld_3, Try.fa_120_3, Try.ld_2, callV_func Try.enters_75, callV_func Try.enters_76, Try.len_109, Try.ia_109, Try.ld_120, callV_func Try.enters_77, callV_func Try.enters_78, callV_func Try.enters_70, t0,  t2,  t7,  t39,  t40,  t41,  Option.map_some,  Option.getD_some,  Option.isSome_some,  zst,  Value.cells,  htl,  hsz,  e11,  t12',  y7,  y8,  y9,  rem4,  conv_int Try.underlying5 Try.underlying3,  hwp,  eq_self,  Int.reduceEq,  hw1,  KInv_normal, rs_tmp (show Try.f12.results = #[.tmp 6] from rfl)]
          exact ⟨40 - (i + 1), by omega, _, i + 1, F8, R8.1, now + ((lat % 8 : Nat) : Int), rfl, by simp [get_put, t0], by simp [get_put, t2], by simp [get_put, t7], by simp [get_put], by simp [get_put, t39], by simp [get_put, t40], by simp [get_put], by omega, w12, hI8, by omega, by omega⟩
    · have hlt' : ((i : Int) < (L.length : Int)) = False := eq_false (by omega)
      simp (maxSteps := 2000000) only [B0, B1, B2, B3, B4, B5, B6, B7, Gd, extV, Nat.reduceLT, Nat.reduceEqDiff, Nat.reduceBEq, Nat.reduceAdd, Nat.reduceSub, Nat.reduceMul, ↓reduceIte, reduceCtorEq, if_true, if_false, ite_true, ite_false, Int.reduceLT, Int.reduceLE, ptr, callV_func Try.enters_64, callV_func Try.enters_68, callV_func Try.enters_74, Try.len_100, Try.ia_100, Try.ld_108, allocV_zero Try.zero_108, Try.st_108, Try.fa_108_3, Try.ld_5, callV_func Try.enters_65, Try.fa_108_0, Try.fa_108_2, callV_func Try.enters_67, callV_func Try.enters_69, allocV_zero Try.zero_120, Try.st_120, Try.fa_120_4, Try.ld_4, Try.fa_120_2, Try.ld_3, Try.fa_120_3, Try.ld_2, callV_func Try.enters_75, callV_func Try.enters_76, Try.len_109, Try.ia_109, Try.ld_120, callV_func Try.enters_77, callV_func Try.enters_78, callV_func Try.enters_70, t40,  t41,  hlt', rs_tmp (show Try.f12.results = #[.tmp 6] from rfl)]
      exact ⟨_, _, rfl, _, F, T, now, rfl, by simp [get_put, t2], by simp [get_put, t7], by simp [get_put, t9], w4, ⟨hI4.g, hI4.st, by have := hI4.len; omega⟩, hn0, by omega⟩
  · rintro fr σ4 ⟨t, F, T, now, rfl, t2, t7, t9, w4, hI4, hn0, hn1⟩
    rw [KSeq_normal]
    simp (maxSteps := 2000000) only [B0, B1, B2, B3, B4, B5, B6, B7, Gd, extV, Nat.reduceLT, Nat.reduceEqDiff, Nat.reduceBEq, Nat.reduceAdd, Nat.reduceSub, Nat.reduceMul, ↓reduceIte, reduceCtorEq, if_true, if_false, ite_true, ite_false, Int.reduceLT, Int.reduceLE, ptr, callV_func Try.enters_64, callV_func Try.enters_68, callV_func Try.enters_74, Try.len_100, Try.ia_100, Try.ld_108, allocV_zero Try.zero_108, Try.st_108, Try.fa_108_3, Try.ld_5, callV_func Try.enters_65, Try.fa_108_0, Try.fa_108_2, callV_func Try.enters_67, callV_func Try.enters_69, allocV_zero Try.zero_120, Try.st_120, Try.fa_120_4, Try.ld_4, Try.fa_120_2, Try.ld_3, Try.fa_120_3, Try.ld_2, callV_func Try.enters_75, callV_func Try.enters_76, Try.len_109, Try.ia_109, Try.ld_120, callV_func Try.enters_77, callV_func Try.enters_78, callV_func Try.enters_70, t2,  t7,  t9, rs_tmp (show Try.f12.results = #[.tmp 6] from rfl)]
    refine lall_run f.toFreeL w4.h (by omega) fun σ5 v17 hv17 hb17 hS5 => ?_
    have w5 := w4.step hS5
    have hks := w4.h.tab.ks
    have hlT := hI4.len
    simp (maxSteps := 2000000) only [B0, B1, B2, B3, B4, B5, B6, B7, Gd, extV, Nat.reduceLT, Nat.reduceEqDiff, Nat.reduceBEq, Nat.reduceAdd, Nat.reduceSub, Nat.reduceMul, ↓reduceIte, reduceCtorEq, if_true, if_false, ite_true, ite_false, Int.reduceLT, Int.reduceLE, ptr, callV_func Try.enters_64, callV_func Try.enters_68, callV_func Try.enters_74, Try.len_100, Try.ia_100, Try.ld_108, allocV_zero Try.zero_108, Try.st_108, Try.fa_108_3, Try.ld_5, callV_func Try.enters_65, Try.fa_108_0, Try.fa_108_2, callV_func Try.enters_67, callV_func Try.enters_69, allocV_zero Try.zero_120, Try.st_120, Try.fa_120_4, Try.ld_4, Try.fa_120_2, Try.ld_3, Try.fa_120_3, Try.ld_2, callV_func Try.enters_75, callV_func Try.enters_76, Try.len_109, Try.ia_109, Try.ld_120, callV_func Try.enters_77, callV_func Try.enters_78, callV_func Try.enters_70, t2,  t7,  t9,  rem4,  conv_int Try.underlying5 Try.underlying3,  hwf, rs_tmp (show Try.f12.results = #[.tmp 6] from rfl)]
    refine lflush_run f.toFreeL w5.h ((fl % 4 : Nat) : Int) (by omega) fun σ6 v18 h6 hv18 hb18 hS6 => ?_
    have w6 := w5.call h6 (fun b hb => .inl hb) hS6
    have n5 := hS5.next
    have n6 := hS6.next
    have hv17' := hv17.same hS6 (fun b hb q => by have := hb17 b hb; have := w4.h.tab.low b q; omega)
    have hIK := hI4.kept hks (fun e => decide (e.2.1 = ((fl % 4 : Nat) : Int)))
    have hkk := kept_ks hks (fun e => decide (e.2.1 = ((fl % 4 : Nat) : Int)))
    have hsl := sweep_kept_len (fun e => decide (e.2.1 = ((fl % 4 : Nat) : Int))) T
    have hK8 := h6.k8
    have hT8 := w4.h.k8
    have hG8 : ∀ e ∈ sweepT T (fun e => decide (e.2.1 = ((fl % 4 : Nat) : Int))), e.1.size = 8 := fun e he => hT8 e (List.mem_filter.1 he).1
    generalize hKd : keptT T (fun e => decide (e.2.1 = ((fl % 4 : Nat) : Int))) = K at *
    generalize hGd : sweepT T (fun e => decide (e.2.1 = ((fl % 4 : Nat) : Int))) = G at *
    have hKl := hIK.len
    obtain ⟨a17, c17, rfl, hc17⟩ := hv17'.len
    obtain ⟨a18, c18, rfl, hc18⟩ := hv18.len
    simp (maxSteps := 2000000) only [B0, B1, B2, B3, B4, B5, B6, B7, Gd, extV, Nat.reduceLT, Nat.reduceEqDiff, Nat.reduceBEq, Nat.reduceAdd, Nat.reduceSub, Nat.reduceMul, ↓reduceIte, reduceCtorEq, if_true, if_false, ite_true, ite_false, Int.reduceLT, Int.reduceLE, ptr, callV_func Try.enters_64, callV_func Try.enters_68, callV_func Try.enters_74, Try.len_100, Try.ia_100, Try.ld_108, allocV_zero Try.zero_108, Try.st_108, Try.fa_108_3, Try.ld_5, callV_func Try.enters_65, Try.fa_108_0, Try.fa_108_2, callV_func Try.enters_67, callV_func Try.enters_69, allocV_zero Try.zero_120, Try.st_120, Try.fa_120_4, Try.ld_4, Try.fa_120_2, Try.ld_3, Try.fa_120_3, Try.ld_2, callV_func Try.enters_75, callV_func Try.enters_76, Try.len_109, Try.ia_109, Try.ld_120, callV_func Try.enters_77, callV_func Try.enters_78, callV_func Try.enters_70, t2,  t7,  t9, rs_tmp (show Try.f12.results = #[.tmp 6] from rfl)]
    refine W_blk_cut (fun fr σ' => ∃ (t : Tr Value), fr = ⟨192, t⟩ ∧ t.get 7 = some (pt s) ∧ t.get 9 = some (.int .i64 now) ∧ t.get 17 = some (.slice a17 T.length c17) ∧ t.get 18 = some (.slice a18 G.length c18) ∧ LO σ σ' s tp F K 5) ?_ ?_
    · refine W_inv (fun k fr σ' => ∃ (t : Tr Value) (j : Nat), fr = ⟨192, t⟩ ∧ t.get 2 = some (.int .u8 (fl : Int)) ∧ t.get 7 = some (pt s) ∧ t.get 9 = some (.int .i64 now) ∧ t.get 17 = some (.slice a17 T.length c17) ∧ t.get 18 = some (.slice a18 G.length c18) ∧ t.get 124 = some (.slice a17 T.length c17) ∧ t.get 125 = some (.int .i64 (T.length : Int)) ∧ t.get 126 = some (.int .i64 (j : Int)) ∧ k + j = T.length ∧ LO σ σ' s tp F K 5 ∧ SlAt σ' 120 10 encSt (.slice a17 T.length c17) T ∧ SlAt σ' 120 10 encSt (.slice a18 G.length c18) G) T.length (by omega)
        ⟨_, 0, rfl, by simp [get_put, t2], by simp [get_put, t7], by simp [get_put, t9], by simp [get_put], by simp [get_put], by simp [get_put], by simp [get_put], by simp [get_put], rfl, w6, hv17', hv18⟩ ?_
      rintro k fr σ7 ⟨t, j, rfl, t2, t7, t9, t17, t18, t124, t125, t126, hk, w7, u17, u18⟩
      by_cases hlt : j < T.length
      · have hx := List.getElem?_eq_getElem hlt
        have hxm := List.getElem_mem hlt
        generalize T[j] = x at hx hxm
        obtain ⟨b, o, cap, g, e, hcap, hbl, hr⟩ := u17.at_ hx
        injection e with e _ e3
        subst e e3
        have l7 := hr.ldCells encStOk hx
        obtain ⟨σ8, σ9, e8, t9', w9, x9, hS9, _⟩ := w7.var 120 zSt (encSt x) rfl (encStOk.single _)
        have htl : (encSt x).toArray.toList = encSt x := rfl
        have hsz : (encSt x).toArray.size = 10 := rfl
        have y7 : ld σ9 σ7.next 7 = some (.int .i64 x.2.1) := x9.v.ld rfl
        have y9 : ld σ9 σ7.next 9 = some (.bool x.2.2.2) := x9.v.ld rfl
        have m9 : ldCells σ9 σ7.next 0 10 = some (encSt x) := x9.v.ldCells
        have hlt' : ((j : Int) < (T.length : Int)) = True := eq_true (by omega)
        have hw1 : IntKind.i64.wrap ((j : Int) + 1) = ((j + 1 : Nat) : Int) := wrap64 (by omega) (by omega)
        have hgo : x ∈ G ↔ x.2.2.2 = false ∧ x.2.1 = ((fl % 4 : Nat) : Int) := by
          rw [← hGd]; unfold sweepT; rw [List.mem_filter]; simp [hxm]
        have hke : x ∈ K ↔ ¬ (x.2.2.2 = false ∧ x.2.1 = ((fl % 4 : Nat) : Int)) := by
          rw [← hKd]; unfold keptT; rw [List.mem_filter]; simp only [hxm, true_and, Bool.or_eq_true, Bool.not_eq_true', decide_eq_false_iff_not]; cases x.2.2.2 <;> simp
        have u18' := u18.same hS9 nofun
        have ss := @same_st
        cases hst : x.2.2.2 with
        | true =>
          rw [hst] at y9
          simp (maxSteps := 2000000) only [B0, B1, B2, B3, B4, B5, B6, B7, Gd, extV, Nat.reduceLT, Nat.reduceEqDiff, Nat.reduceBEq, Nat.reduceAdd, Nat.reduceSub, Nat.reduceMul, ↓reduceIte, reduceCtorEq, if_true, if_false, ite_true, ite_false, Int.reduceLT, Int.reduceLE, ptr, callV_func Try.enters_64, callV_func Try.enters_68, callV_func Try.enters_74, Try.len_100, Try.ia_100, Try.ld_108, allocV_zero Try.zero_108, Try.st_108, Try.fa_108_3, Try.ld_5, callV_func Try.enters_65, Try.fa_108_0, Try.fa_108_2, callV_func Try.enters_67, callV_func Try.enters_69, allocV_zero Try.zero_120, Try.st_120, Try.fa_120_4, Try.ld_4, Try.fa_120_2, Try.ld_3, Try.fa_120_3, Try.ld_2, callV_func Try.enters_75, callV_func Try.enters_76, Try.len_109, Try.ia_109, Try.ld_120, callV_func Try.enters_77, callV_func Try.enters_78, callV_func Try.enters_70, t2,  t7,  t9,  t17,  t18,  t124,  t125,  t126,  hlt',  hlt,  l7,  zst,  e8,  Value.cells,  htl,  hsz,  t9',  y7,  y9, rs_tmp (show Try.f12.results = #[.tmp 6] from rfl)]
          refine Eq.mpr (W_retold (ps := [(7, 8)]) (by kernel_rfl) (by kernel_rfl) (by simp)) ?_
          simp (maxSteps := 2000000) only [B0, B1, B2, B3, B4, B5, B6, B7, Gd, extV, Nat.reduceLT, Nat.reduceEqDiff, Nat.reduceBEq, Nat.reduceAdd, Nat.reduceSub, Nat.reduceMul, ↓reduceIte, reduceCtorEq, if_true, if_false, ite_true, ite_false, Int.reduceLT, Int.reduceLE, ptr, callV_func Try.enters_64, callV_func Try.enters_68, callV_func Try.enters_74, Try.len_100, Try.ia_100, Try.ld_108, allocV_zero Try.zero_108, Try.st_108, Try.fa_108_3, Try.ld_5, callV_func Try.enters_65, Try.fa_108_0, Try.fa_108_2, callV_func Try.enters_67, callV_func Try.enters_69, allocV_zero Try.zero_120, Try.st_120, Try.fa_120_4, Try.ld_4, Try.fa_120_2, Try.ld_3, Try.fa_120_3, Try.ld_2, callV_func Try.enters_75, callV_func Try.enters_76, Try.len_109, Try.ia_109, Try.ld_120, callV_func Try.enters_77, callV_func Try.enters_78, callV_func Try.enters_70, t18,  m9, rs_tmp (show Try.f12.results = #[.tmp 6] from rfl)]
          refine scontains_run f.h77 f.h133 x (hT8 x hxm) hG8 (u18'.toR encStOk) (by omega) (by omega) fun σ10 b1 hS10 hb1 => ?_
          have w10 := w9.step hS10
          have m10 : ldCells σ10 σ7.next 0 10 = some (encSt x) := (x9.step hS10).v.ldCells
          have hb1' : b1 = false := by
            rw [hgo] at hb1
            cases b1 <;> simp_all
          rw [hb1']
          simp (maxSteps := 2000000) only [B0, B1, B2, B3, B4, B5, B6, B7, Gd, extV, Nat.reduceLT, Nat.reduceEqDiff, Nat.reduceBEq, Nat.reduceAdd, Nat.reduceSub, Nat.reduceMul, ↓reduceIte, reduceCtorEq, if_true, if_false, ite_true, ite_false, Int.reduceLT, Int.reduceLE, ptr, callV_func Try.enters_64, callV_func Try.enters_68, callV_func Try.enters_74, Try.len_100, Try.ia_100, Try.ld_108, allocV_zero Try.zero_108, Try.st_108, Try.fa_108_3, Try.ld_5, callV_func Try.enters_65, Try.fa_108_0, Try.fa_108_2, callV_func Try.enters_67, callV_func Try.enters_69, allocV_zero Try.zero_120, Try.st_120, Try.fa_120_4, Try.ld_4, Try.fa_120_2, Try.ld_3, Try.fa_120_3, Try.ld_2, callV_func Try.enters_75, callV_func Try.enters_76, Try.len_109, Try.ia_109, Try.ld_120, callV_func Try.enters_77, callV_func Try.enters_78, callV_func Try.enters_70, m9,  m10,  t7,  t18,  wanted_g (P := Try.prog),  wantB_tt,  wantB_ff,  wantB_tf,  wantB_ft,  wantB_un,  bin_bneq Try.underlying4,  bin_beql Try.underlying4,  decide_true,  decide_false,  eq_self,  Bool.false_eq_true,  Bool.true_eq_false, rs_tmp (show Try.f12.results = #[.tmp 6] from rfl)]
          refine lall_run f.toFreeL w10.h (by omega) fun σ11 va hva hba hS11 => ?_
          have w11 := w10.step hS11
          have m11 : ldCells σ11 σ7.next 0 10 = some (encSt x) := ((x9.step hS10).step hS11).v.ldCells
          simp (maxSteps := 2000000) only [B0, B1, B2, B3, B4, B5, B6, B7, Gd, extV, Nat.reduceLT, Nat.reduceEqDiff, Nat.reduceBEq, Nat.reduceAdd, Nat.reduceSub, Nat.reduceMul, ↓reduceIte, reduceCtorEq, if_true, if_false, ite_true, ite_false, Int.reduceLT, Int.reduceLE, ptr, callV_func Try.enters_64, callV_func Try.enters_68, callV_func Try.enters_74, Try.len_100, Try.ia_100, Try.ld_108, allocV_zero Try.zero_108, Try.st_108, Try.fa_108_3, Try.ld_5, callV_func Try.enters_65, Try.fa_108_0, Try.fa_108_2, callV_func Try.enters_67, callV_func Try.enters_69, allocV_zero Try.zero_120, Try.st_120, Try.fa_120_4, Try.ld_4, Try.fa_120_2, Try.ld_3, Try.fa_120_3, Try.ld_2, callV_func Try.enters_75, callV_func Try.enters_76, Try.len_109, Try.ia_109, Try.ld_120, callV_func Try.enters_77, callV_func Try.enters_78, callV_func Try.enters_70, m9,  m10,  m11,  t7,  t18, rs_tmp (show Try.f12.results = #[.tmp 6] from rfl)]
          refine scontains_run f.h77 f.h133 x (hT8 x hxm) hK8 (hva.toR encStOk) (by omega) (by omega) fun σ12 b2 hS12 hb2 => ?_
          have w12 := w11.step hS12
          have hb2' : b2 = !false := by
            rw [hke] at hb2
            cases b2 <;> simp_all
          rw [hb2']
          simp (maxSteps := 2000000) only [B0, B1, B2, B3, B4, B5, B6, B7, Gd, extV, Nat.reduceLT, Nat.reduceEqDiff, Nat.reduceBEq, Nat.reduceAdd, Nat.reduceSub, Nat.reduceMul, ↓reduceIte, reduceCtorEq, if_true, if_false, ite_true, ite_false, Int.reduceLT, Int.reduceLE, ptr, callV_func Try.enters_64, callV_func Try.enters_68, callV_func Try.enters_74, Try.len_100, Try.ia_100, Try.ld_108, allocV_zero Try.zero_108, Try.st_108, Try.fa_108_3, Try.ld_5, callV_func Try.enters_65, Try.fa_108_0, Try.fa_108_2, callV_func Try.enters_67, callV_func Try.enters_69, allocV_zero Try.zero_120, Try.st_120, Try.fa_120_4, Try.ld_4, Try.fa_120_2, Try.ld_3, Try.fa_120_3, Try.ld_2, callV_func Try.enters_75, callV_func Try.enters_76, Try.len_109, Try.ia_109, Try.ld_120, callV_func Try.enters_77, callV_func Try.enters_78, callV_func Try.enters_70, m9,  m10,  m11,  t7,  t126,  hw1,  ss,  wanted_g (P := Try.prog),  wantB_tt,  wantB_ff,  wantB_tf,  wantB_ft,  wantB_un,  bin_bneq Try.underlying4,  bin_beql Try.underlying4,  decide_true,  decide_false,  eq_self,  Bool.false_eq_true,  Bool.true_eq_false,  implies_true,  true_implies,  RetAt_mkg,  RetAt_lastg,  KInv_normal, rs_tmp (show Try.f12.results = #[.tmp 6] from rfl)]
          exact ⟨T.length - (j + 1), by omega, _, j + 1, rfl, by simp [get_put, t2], by simp [get_put, t7], by simp [get_put, t9], by simp [get_put, t17], by simp [get_put, t18], by simp [get_put, t124], by simp [get_put, t125], by simp [get_put], by omega, w12, (((u17.same hS9 nofun).same hS10 nofun).same hS11 nofun).same hS12 nofun, (((u18'.same hS10 nofun).same hS11 nofun).same hS12 nofun)⟩
        | false =>
          rw [hst] at y9
          by_cases hpf : x.2.1 = ((fl % 4 : Nat) : Int)
          · have hpf' := eq_true hpf
            simp (maxSteps := 2000000) only [B0, B1, B2, B3, B4, B5, B6, B7, Gd, extV, Nat.reduceLT, Nat.reduceEqDiff, Nat.reduceBEq, Nat.reduceAdd, Nat.reduceSub, Nat.reduceMul, ↓reduceIte, reduceCtorEq, if_true, if_false, ite_true, ite_false, Int.reduceLT, Int.reduceLE, ptr, callV_func Try.enters_64, callV_func Try.enters_68, callV_func Try.enters_74, Try.len_100, Try.ia_100, Try.ld_108, allocV_zero Try.zero_108, Try.st_108, Try.fa_108_3, Try.ld_5, callV_func Try.enters_65, Try.fa_108_0, Try.fa_108_2, callV_func Try.enters_67, callV_func Try.enters_69, allocV_zero Try.zero_120, Try.st_120, Try.fa_120_4, Try.ld_4, Try.fa_120_2, Try.ld_3, Try.fa_120_3, Try.ld_2, callV_func Try.enters_75, callV_func Try.enters_76, Try.len_109, Try.ia_109, Try.ld_120, callV_func Try.enters_77, callV_func Try.enters_78, callV_func Try.enters_70, t2,  t7,  t9,  t17,  t18,  t124,  t125,  t126,  hlt',  hlt,  l7,  zst,  e8,  Value.cells,  htl,  hsz,  t9',  y7,  y9,  rem4,  conv_int Try.underlying5 Try.underlying3,  hwf,  hpf', rs_tmp (show Try.f12.results = #[.tmp 6] from rfl)]
            refine Eq.mpr (W_retold (ps := [(7, 8)]) (by kernel_rfl) (by kernel_rfl) (by simp)) ?_
            simp (maxSteps := 2000000) only [B0, B1, B2, B3, B4, B5, B6, B7, Gd, extV, Nat.reduceLT, Nat.reduceEqDiff, Nat.reduceBEq, Nat.reduceAdd, Nat.reduceSub, Nat.reduceMul, ↓reduceIte, reduceCtorEq, if_true, if_false, ite_true, ite_false, Int.reduceLT, Int.reduceLE, ptr, callV_func Try.enters_64, callV_func Try.enters_68, callV_func Try.enters_74, Try.len_100, Try.ia_100, Try.ld_108, allocV_zero Try.zero_108, Try.st_108, Try.fa_108_3, Try.ld_5, callV_func Try.enters_65, Try.fa_108_0, Try.fa_108_2, callV_func Try.enters_67, callV_func Try.enters_69, allocV_zero Try.zero_120, Try.st_120, Try.fa_120_4, Try.ld_4, Try.fa_120_2, Try.ld_3, Try.fa_120_3, Try.ld_2, callV_func Try.enters_75, callV_func Try.enters_76, Try.len_109, Try.ia_109, Try.ld_120, callV_func Try.enters_77, callV_func Try.enters_78, callV_func Try.enters_70, t18,  m9, rs_tmp (show Try.f12.results = #[.tmp 6] from rfl)]
            refine scontains_run f.h77 f.h133 x (hT8 x hxm) hG8 (u18'.toR encStOk) (by omega) (by omega) fun σ10 b1 hS10 hb1 => ?_
            have w10 := w9.step hS10
            have m10 : ldCells σ10 σ7.next 0 10 = some (encSt x) := (x9.step hS10).v.ldCells
            have hb1' : b1 = true := by
              rw [hgo] at hb1
              cases b1 <;> simp_all
            rw [hb1']
            simp (maxSteps := 2000000) only [B0, B1, B2, B3, B4, B5, B6, B7, Gd, extV, Nat.reduceLT, Nat.reduceEqDiff, Nat.reduceBEq, Nat.reduceAdd, Nat.reduceSub, Nat.reduceMul, ↓reduceIte, reduceCtorEq, if_true, if_false, ite_true, ite_false, Int.reduceLT, Int.reduceLE, ptr, callV_func Try.enters_64, callV_func Try.enters_68, callV_func Try.enters_74, Try.len_100, Try.ia_100, Try.ld_108, allocV_zero Try.zero_108, Try.st_108, Try.fa_108_3, Try.ld_5, callV_func Try.enters_65, Try.fa_108_0, Try.fa_108_2, callV_func Try.enters_67, callV_func Try.enters_69, allocV_zero Try.zero_120, Try.st_120, Try.fa_120_4, Try.ld_4, Try.fa_120_2, Try.ld_3, Try.fa_120_3, Try.ld_2, callV_func Try.enters_75, callV_func Try.enters_76, Try.len_109, Try.ia_109, Try.ld_120, callV_func Try.enters_77, callV_func Try.enters_78, callV_func Try.enters_70, m9,  m10,  t7,  t18,  wanted_g (P := Try.prog),  wantB_tt,  wantB_ff,  wantB_tf,  wantB_ft,  wantB_un,  bin_bneq Try.underlying4,  bin_beql Try.underlying4,  decide_true,  decide_false,  eq_self,  Bool.false_eq_true,  Bool.true_eq_false, rs_tmp (show Try.f12.results = #[.tmp 6] from rfl)]
            refine lall_run f.toFreeL w10.h (by omega) fun σ11 va hva hba hS11 => ?_
            have w11 := w10.step hS11
            have m11 : ldCells σ11 σ7.next 0 10 = some (encSt x) := ((x9.step hS10).step hS11).v.ldCells
            simp (maxSteps := 2000000) only [B0, B1, B2, B3, B4, B5, B6, B7, Gd, extV, Nat.reduceLT, Nat.reduceEqDiff, Nat.reduceBEq, Nat.reduceAdd, Nat.reduceSub, Nat.reduceMul, ↓reduceIte, reduceCtorEq, if_true, if_false, ite_true, ite_false, Int.reduceLT, Int.reduceLE, ptr, callV_func Try.enters_64, callV_func Try.enters_68, callV_func Try.enters_74, Try.len_100, Try.ia_100, Try.ld_108, allocV_zero Try.zero_108, Try.st_108, Try.fa_108_3, Try.ld_5, callV_func Try.enters_65, Try.fa_108_0, Try.fa_108_2, callV_func Try.enters_67, callV_func Try.enters_69, allocV_zero Try.zero_120, Try.st_120, Try.fa_120_4, Try.ld_4, Try.fa_120_2, Try.ld_3, Try.fa_120_3, Try.ld_2, callV_func Try.enters_75, callV_func Try.enters_76, Try.len_109, Try.ia_109, Try.ld_120, callV_func Try.enters_77, callV_func Try.enters_78, callV_func Try.enters_70, m9,  m10,  m11,  t7,  t18, rs_tmp (show Try.f12.results = #[.tmp 6] from rfl)]
            refine scontains_run f.h77 f.h133 x (hT8 x hxm) hK8 (hva.toR encStOk) (by omega) (by omega) fun σ12 b2 hS12 hb2 => ?_
            have w12 := w11.step hS12
            have hb2' : b2 = !true := by
              rw [hke] at hb2
              cases b2 <;> simp_all
            rw [hb2']
            simp (maxSteps := 2000000) only [B0, B1, B2, B3, B4, B5, B6, B7, Gd, extV, Nat.reduceLT, Nat.reduceEqDiff, Nat.reduceBEq, Nat.reduceAdd, Nat.reduceSub, Nat.reduceMul, ↓reduceIte, reduceCtorEq, if_true, if_false, ite_true, ite_false, Int.reduceLT, Int.reduceLE, ptr, callV_func Try.enters_64, callV_func Try.enters_68, callV_func Try.enters_74, Try.len_100, Try.ia_100, Try.ld_108, allocV_zero Try.zero_108, Try.st_108, Try.fa_108_3, Try.ld_5, callV_func Try.enters_65, Try.fa_108_0, Try.fa_108_2, callV_func Try.enters_67, callV_func Try.enters_69, allocV_zero Try.zero_120, Try.st_120, Try.fa_120_4, Try.ld_4, Try.fa_120_2, Try.ld_3, Try.fa_120_3, Try.ld_2, callV_func Try.enters_75, callV_func Try.enters_76, Try.len_109, Try.ia_109, Try.ld_120, callV_func Try.enters_77, callV_func Try.enters_78, callV_func Try.enters_70, m9,  m10,  m11,  t7,  t126,  hw1,  ss,  wanted_g (P := Try.prog),  wantB_tt,  wantB_ff,  wantB_tf,  wantB_ft,  wantB_un,  bin_bneq Try.underlying4,  bin_beql Try.underlying4,  decide_true,  decide_false,  eq_self,  Bool.false_eq_true,  Bool.true_eq_false,  implies_true,  true_implies,  RetAt_mkg,  RetAt_lastg,  KInv_normal, rs_tmp (show Try.f12.results = #[.tmp 6] from rfl)]
            exact ⟨T.length - (j + 1), by omega, _, j + 1, rfl, by simp [get_put, t2], by simp [get_put, t7], by simp [get_put, t9], by simp [get_put, t17], by simp [get_put, t18], by simp [get_put, t124], by simp [get_put, t125], by simp [get_put], by omega, w12, (((u17.same hS9 nofun).same hS10 nofun).same hS11 nofun).same hS12 nofun, (((u18'.same hS10 nofun).same hS11 nofun).same hS12 nofun)⟩
          · have hpf' := eq_false hpf
            simp (maxSteps := 2000000) only [B0, B1, B2, B3, B4, B5, B6, B7, Gd, extV, Nat.reduceLT, Nat.reduceEqDiff, Nat.reduceBEq, Nat.reduceAdd, Nat.reduceSub, Nat.reduceMul, ↓reduceIte, reduceCtorEq, if_true, if_false, ite_true, ite_false, Int.reduceLT, Int.reduceLE, ptr, callV_func Try.enters_64, callV_func Try.enters_68, callV_func Try.enters_74, Try.len_100, Try.ia_100, Try.ld_108, allocV_zero Try.zero_108, Try.st_108, Try.fa_108_3, Try.ld_5, callV_func Try.enters_65, Try.fa_108_0, Try.fa_108_2, callV_func Try.enters_67, callV_func Try.enters_69, allocV_zero Try.zero_120, Try.st_120, Try.fa_120_4, Try.ld_4, Try.fa_120_2, Try.ld_3, Try.fa_120_3, Try.ld_2, callV_func Try.enters_75, callV_func Try.enters_76, Try.len_109, Try.ia_109, Try.ld_120, callV_func Try.enters_77, callV_func Try.enters_78, callV_func Try.enters_70, t2,  t7,  t9,  t17,  t18,  t124,  t125,  t126,  hlt',  hlt,  l7,  zst,  e8,  Value.cells,  htl,  hsz,  t9',  y7,  y9,  rem4,  conv_int Try.underlying5 Try.underlying3,  hwf,  hpf', rs_tmp (show Try.f12.results = #[.tmp 6] from rfl)]
            refine Eq.mpr (W_retold (ps := [(7, 8)]) (by kernel_rfl) (by kernel_rfl) (by simp)) ?_
            simp (maxSteps := 2000000) only [B0, B1, B2, B3, B4, B5, B6, B7, Gd, extV, Nat.reduceLT, Nat.reduceEqDiff, Nat.reduceBEq, Nat.reduceAdd, Nat.reduceSub, Nat.reduceMul, ↓reduceIte, reduceCtorEq, if_true, if_false, ite_true, ite_false, Int.reduceLT, Int.reduceLE, ptr, callV_func Try.enters_64, callV_func Try.enters_68, callV_func Try.enters_74, Try.len_100, Try.ia_100, Try.ld_108, allocV_zero Try.zero_108, Try.st_108, Try.fa_108_3, Try.ld_5, callV_func Try.enters_65, Try.fa_108_0, Try.fa_108_2, callV_func Try.enters_67, callV_func Try.enters_69, allocV_zero Try.zero_120, Try.st_120, Try.fa_120_4, Try.ld_4, Try.fa_120_2, Try.ld_3, Try.fa_120_3, Try.ld_2, callV_func Try.enters_75, callV_func Try.enters_76, Try.len_109, Try.ia_109, Try.ld_120, callV_func Try.enters_77, callV_func Try.enters_78, callV_func Try.enters_70, t18,  m9, rs_tmp (show Try.f12.results = #[.tmp 6] from rfl)]
            refine scontains_run f.h77 f.h133 x (hT8 x hxm) hG8 (u18'.toR encStOk) (by omega) (by omega) fun σ10 b1 hS10 hb1 => ?_
            have w10 := w9.step hS10
            have m10 : ldCells σ10 σ7.next 0 10 = some (encSt x) := (x9.step hS10).v.ldCells
            have hb1' : b1 = false := by
              rw [hgo] at hb1
              cases b1 <;> simp_all
            rw [hb1']
            simp (maxSteps := 2000000) only [B0, B1, B2, B3, B4, B5, B6, B7, Gd, extV, Nat.reduceLT, Nat.reduceEqDiff, Nat.reduceBEq, Nat.reduceAdd, Nat.reduceSub, Nat.reduceMul, ↓reduceIte, reduceCtorEq, if_true, if_false, ite_true, ite_false, Int.reduceLT, Int.reduceLE, ptr, callV_func Try.enters_64, callV_func Try.enters_68, callV_func Try.enters_74, Try.len_100, Try.ia_100, Try.ld_108, allocV_zero Try.zero_108, Try.st_108, Try.fa_108_3, Try.ld_5, callV_func Try.enters_65, Try.fa_108_0, Try.fa_108_2, callV_func Try.enters_67, callV_func Try.enters_69, allocV_zero Try.zero_120, Try.st_120, Try.fa_120_4, Try.ld_4, Try.fa_120_2, Try.ld_3, Try.fa_120_3, Try.ld_2, callV_func Try.enters_75, callV_func Try.enters_76, Try.len_109, Try.ia_109, Try.ld_120, callV_func Try.enters_77, callV_func Try.enters_78, callV_func Try.enters_70, m9,  m10,  t7,  t18,  wanted_g (P := Try.prog),  wantB_tt,  wantB_ff,  wantB_tf,  wantB_ft,  wantB_un,  bin_bneq Try.underlying4,  bin_beql Try.underlying4,  decide_true,  decide_false,  eq_self,  Bool.false_eq_true,  Bool.true_eq_false, rs_tmp (show Try.f12.results = #[.tmp 6] from rfl)]
            refine lall_run f.toFreeL w10.h (by omega) fun σ11 va hva hba hS11 => ?_
            have w11 := w10.step hS11
            have m11 : ldCells σ11 σ7.next 0 10 = some (encSt x) := ((x9.step hS10).step hS11).v.ldCells
            simp (maxSteps := 2000000) only [B0, B1, B2, B3, B4, B5, B6, B7, Gd, extV, Nat.reduceLT, Nat.reduceEqDiff, Nat.reduceBEq, Nat.reduceAdd, Nat.reduceSub, Nat.reduceMul, ↓reduceIte, reduceCtorEq, if_true, if_false, ite_true, ite_false, Int.reduceLT, Int.reduceLE, ptr, callV_func Try.enters_64, callV_func Try.enters_68, callV_func Try.enters_74, Try.len_100, Try.ia_100, Try.ld_108, allocV_zero Try.zero_108, Try.st_108, Try.fa_108_3, Try.ld_5, callV_func Try.enters_65, Try.fa_108_0, Try.fa_108_2, callV_func Try.enters_67, callV_func Try.enters_69, allocV_zero Try.zero_120, Try.st_120, Try.fa_120_4, Try.ld_4, Try.fa_120_2, Try.ld_3, Try.fa_120_3, Try.ld_2, callV_func Try.enters_75, callV_func Try.enters_76, Try.len_109, Try.ia_109, Try.ld_120, callV_func Try.enters_77, callV_func Try.enters_78, callV_func Try.enters_70, m9,  m10,  m11,  t7,  t18, rs_tmp (show Try.f12.results = #[.tmp 6] from rfl)]
            refine scontains_run f.h77 f.h133 x (hT8 x hxm) hK8 (hva.toR encStOk) (by omega) (by omega) fun σ12 b2 hS12 hb2 => ?_
            have w12 := w11.step hS12
            have hb2' : b2 = !false := by
              rw [hke] at hb2
              cases b2 <;> simp_all
            rw [hb2']
            simp (maxSteps := 2000000) only [B0, B1, B2, B3, B4, B5, B6, B7, Gd, extV, Nat.reduceLT, Nat.reduceEqDiff, Nat.reduceBEq, Nat.reduceAdd, Nat.reduceSub, Nat.reduceMul, ↓reduceIte, reduceCtorEq, if_true, if_false, ite_true, ite_false, Int.reduceLT, Int.reduceLE, ptr, callV_func Try.enters_64, callV_func Try.enters_68, callV_func Try.enters_74, Try.len_100, Try.ia_100, Try.ld_108, allocV_zero Try.zero_108, Try.st_108, Try.fa_108_3, Try.ld_5, callV_func Try.enters_65, Try.fa_108_0, Try.fa_108_2, callV_func Try.enters_67, callV_func Try.enters_69, allocV_zero Try.zero_120, Try.st_120, Try.fa_120_4, Try.ld_4, Try.fa_120_2, Try.ld_3, Try.fa_120_3, Try.ld_2, callV_func Try.enters_75, callV_func Try.enters_76, Try.len_109, Try.ia_109, Try.ld_120, callV_func Try.enters_77, callV_func Try.enters_78, callV_func Try.enters_70, m9,  m10,  m11,  t7,  t126,  hw1,  ss,  wanted_g (P := Try.prog),  wantB_tt,  wantB_ff,  wantB_tf,  wantB_ft,  wantB_un,  bin_bneq Try.underlying4,  bin_beql Try.underlying4,  decide_true,  decide_false,  eq_self,  Bool.false_eq_true,  Bool.true_eq_false,  implies_true,  true_implies,  RetAt_mkg,  RetAt_lastg,  KInv_normal, rs_tmp (show Try.f12.results = #[.tmp 6] from rfl)]
            exact ⟨T.length - (j + 1), by omega, _, j + 1, rfl, by simp [get_put, t2], by simp [get_put, t7], by simp [get_put, t9], by simp [get_put, t17], by simp [get_put, t18], by simp [get_put, t124], by simp [get_put, t125], by simp [get_put], by omega, w12, (((u17.same hS9 nofun).same hS10 nofun).same hS11 nofun).same hS12 nofun, (((u18'.same hS10 nofun).same hS11 nofun).same hS12 nofun)⟩
      · have hlt' : ((j : Int) < (T.length : Int)) = False := eq_false (by omega)
        simp (maxSteps := 2000000) only [B0, B1, B2, B3, B4, B5, B6, B7, Gd, extV, Nat.reduceLT, Nat.reduceEqDiff, Nat.reduceBEq, Nat.reduceAdd, Nat.reduceSub, Nat.reduceMul, ↓reduceIte, reduceCtorEq, if_true, if_false, ite_true, ite_false, Int.reduceLT, Int.reduceLE, ptr, callV_func Try.enters_64, callV_func Try.enters_68, callV_func Try.enters_74, Try.len_100, Try.ia_100, Try.ld_108, allocV_zero Try.zero_108, Try.st_108, Try.fa_108_3, Try.ld_5, callV_func Try.enters_65, Try.fa_108_0, Try.fa_108_2, callV_func Try.enters_67, callV_func Try.enters_69, allocV_zero Try.zero_120, Try.st_120, Try.fa_120_4, Try.ld_4, Try.fa_120_2, Try.ld_3, Try.fa_120_3, Try.ld_2, callV_func Try.enters_75, callV_func Try.enters_76, Try.len_109, Try.ia_109, Try.ld_120, callV_func Try.enters_77, callV_func Try.enters_78, callV_func Try.enters_70, t2,  t7,  t9,  t17,  t18,  t124,  t125,  t126,  hlt', rs_tmp (show Try.f12.results = #[.tmp 6] from rfl)]
        exact ⟨_, _, rfl, _, rfl, by simp [get_put, t7], by simp [get_put, t9], by simp [get_put, t17], by simp [get_put, t18], w7⟩
    · clear w6 w5 w4 t2 t7 t9 hv17' hv18 hv17
      rintro fr σ7 ⟨t, rfl, t7, t9, t17, t18, w7⟩
      rw [KSeq_normal]
      obtain ⟨d1, d2, d3, d4⟩ := hIK.again hkk (by omega) kS_size (p := 9) (now := now) hn0 (by omega)
      simp (maxSteps := 2000000) only [B0, B1, B2, B3, B4, B5, B6, B7, Gd, extV, Nat.reduceLT, Nat.reduceEqDiff, Nat.reduceBEq, Nat.reduceAdd, Nat.reduceSub, Nat.reduceMul, ↓reduceIte, reduceCtorEq, if_true, if_false, ite_true, ite_false, Int.reduceLT, Int.reduceLE, ptr, callV_func Try.enters_64, callV_func Try.enters_68, callV_func Try.enters_74, Try.len_100, Try.ia_100, Try.ld_108, allocV_zero Try.zero_108, Try.st_108, Try.fa_108_3, Try.ld_5, callV_func Try.enters_65, Try.fa_108_0, Try.fa_108_2, callV_func Try.enters_67, callV_func Try.enters_69, allocV_zero Try.zero_120, Try.st_120, Try.fa_120_4, Try.ld_4, Try.fa_120_2, Try.ld_3, Try.fa_120_3, Try.ld_2, callV_func Try.enters_75, callV_func Try.enters_76, Try.len_109, Try.ia_109, Try.ld_120, callV_func Try.enters_77, callV_func Try.enters_78, callV_func Try.enters_70, t7,  t9,  t17,  t18, rs_tmp (show Try.f12.results = #[.tmp 6] from rfl)]
      refine station_run (w := 0) f.h68 fun σ8 hS8 => ?_
      have w8 := w7.step hS8
      simp (maxSteps := 2000000) only [B0, B1, B2, B3, B4, B5, B6, B7, Gd, extV, Nat.reduceLT, Nat.reduceEqDiff, Nat.reduceBEq, Nat.reduceAdd, Nat.reduceSub, Nat.reduceMul, ↓reduceIte, reduceCtorEq, if_true, if_false, ite_true, ite_false, Int.reduceLT, Int.reduceLE, ptr, callV_func Try.enters_64, callV_func Try.enters_68, callV_func Try.enters_74, Try.len_100, Try.ia_100, Try.ld_108, allocV_zero Try.zero_108, Try.st_108, Try.fa_108_3, Try.ld_5, callV_func Try.enters_65, Try.fa_108_0, Try.fa_108_2, callV_func Try.enters_67, callV_func Try.enters_69, allocV_zero Try.zero_120, Try.st_120, Try.fa_120_4, Try.ld_4, Try.fa_120_2, Try.ld_3, Try.fa_120_3, Try.ld_2, callV_func Try.enters_75, callV_func Try.enters_76, Try.len_109, Try.ia_109, Try.ld_120, callV_func Try.enters_77, callV_func Try.enters_78, callV_func Try.enters_70, t7,  t9,  t17,  t18, rs_tmp (show Try.f12.results = #[.tmp 6] from rfl)]
      refine ldrop_run (d := 1) f.toFreeL w8.h (staw 1 0 (by unfold okDom; omega)) (by omega) fun σ9 h9 hS9 => ?_
      have w9 := w8.call h9 (fun b hb => .inl hb) hS9
      rw [d1] at w9 ⊢
      simp (maxSteps := 2000000) only [B0, B1, B2, B3, B4, B5, B6, B7, Gd, extV, Nat.reduceLT, Nat.reduceEqDiff, Nat.reduceBEq, Nat.reduceAdd, Nat.reduceSub, Nat.reduceMul, ↓reduceIte, reduceCtorEq, if_true, if_false, ite_true, ite_false, Int.reduceLT, Int.reduceLE, ptr, callV_func Try.enters_64, callV_func Try.enters_68, callV_func Try.enters_74, Try.len_100, Try.ia_100, Try.ld_108, allocV_zero Try.zero_108, Try.st_108, Try.fa_108_3, Try.ld_5, callV_func Try.enters_65, Try.fa_108_0, Try.fa_108_2, callV_func Try.enters_67, callV_func Try.enters_69, allocV_zero Try.zero_120, Try.st_120, Try.fa_120_4, Try.ld_4, Try.fa_120_2, Try.ld_3, Try.fa_120_3, Try.ld_2, callV_func Try.enters_75, callV_func Try.enters_76, Try.len_109, Try.ia_109, Try.ld_120, callV_func Try.enters_77, callV_func Try.enters_78, callV_func Try.enters_70, t7,  t9,  t17,  t18,  Int.reduceEq, rs_tmp (show Try.f12.results = #[.tmp 6] from rfl)]
      refine station_run (w := 0) f.h68 fun σ10 hS10 => ?_
      have w10 := w9.step hS10
      simp (maxSteps := 2000000) only [B0, B1, B2, B3, B4, B5, B6, B7, Gd, extV, Nat.reduceLT, Nat.reduceEqDiff, Nat.reduceBEq, Nat.reduceAdd, Nat.reduceSub, Nat.reduceMul, ↓reduceIte, reduceCtorEq, if_true, if_false, ite_true, ite_false, Int.reduceLT, Int.reduceLE, ptr, callV_func Try.enters_64, callV_func Try.enters_68, callV_func Try.enters_74, Try.len_100, Try.ia_100, Try.ld_108, allocV_zero Try.zero_108, Try.st_108, Try.fa_108_3, Try.ld_5, callV_func Try.enters_65, Try.fa_108_0, Try.fa_108_2, callV_func Try.enters_67, callV_func Try.enters_69, allocV_zero Try.zero_120, Try.st_120, Try.fa_120_4, Try.ld_4, Try.fa_120_2, Try.ld_3, Try.fa_120_3, Try.ld_2, callV_func Try.enters_75, callV_func Try.enters_76, Try.len_109, Try.ia_109, Try.ld_120, callV_func Try.enters_77, callV_func Try.enters_78, callV_func Try.enters_70, t7,  t9,  t17,  t18, rs_tmp (show Try.f12.results = #[.tmp 6] from rfl)]
      refine ldrop_run (d := 1) f.toFreeL w10.h (staw 1 0 (by unfold okDom; omega)) (by omega) fun σ11 h11 hS11 => ?_
      have w11 := w10.call h11 (fun b hb => .inl hb) hS11
      simp only at w11 ⊢
      rw [d2] at w11 ⊢
      simp (maxSteps := 2000000) only [B0, B1, B2, B3, B4, B5, B6, B7, Gd, extV, Nat.reduceLT, Nat.reduceEqDiff, Nat.reduceBEq, Nat.reduceAdd, Nat.reduceSub, Nat.reduceMul, ↓reduceIte, reduceCtorEq, if_true, if_false, ite_true, ite_false, Int.reduceLT, Int.reduceLE, ptr, callV_func Try.enters_64, callV_func Try.enters_68, callV_func Try.enters_74, Try.len_100, Try.ia_100, Try.ld_108, allocV_zero Try.zero_108, Try.st_108, Try.fa_108_3, Try.ld_5, callV_func Try.enters_65, Try.fa_108_0, Try.fa_108_2, callV_func Try.enters_67, callV_func Try.enters_69, allocV_zero Try.zero_120, Try.st_120, Try.fa_120_4, Try.ld_4, Try.fa_120_2, Try.ld_3, Try.fa_120_3, Try.ld_2, callV_func Try.enters_75, callV_func Try.enters_76, Try.len_109, Try.ia_109, Try.ld_120, callV_func Try.enters_77, callV_func Try.enters_78, callV_func Try.enters_70, t7,  t9,  t17,  t18,  Int.reduceEq, rs_tmp (show Try.f12.results = #[.tmp 6] from rfl)]
      refine station_run (w := 0) f.h68 fun σ12 hS12 => ?_
      have w12 := w11.step hS12
      simp (maxSteps := 2000000) only [B0, B1, B2, B3, B4, B5, B6, B7, Gd, extV, Nat.reduceLT, Nat.reduceEqDiff, Nat.reduceBEq, Nat.reduceAdd, Nat.reduceSub, Nat.reduceMul, ↓reduceIte, reduceCtorEq, if_true, if_false, ite_true, ite_false, Int.reduceLT, Int.reduceLE, ptr, callV_func Try.enters_64, callV_func Try.enters_68, callV_func Try.enters_74, Try.len_100, Try.ia_100, Try.ld_108, allocV_zero Try.zero_108, Try.st_108, Try.fa_108_3, Try.ld_5, callV_func Try.enters_65, Try.fa_108_0, Try.fa_108_2, callV_func Try.enters_67, callV_func Try.enters_69, allocV_zero Try.zero_120, Try.st_120, Try.fa_120_4, Try.ld_4, Try.fa_120_2, Try.ld_3, Try.fa_120_3, Try.ld_2, callV_func Try.enters_75, callV_func Try.enters_76, Try.len_109, Try.ia_109, Try.ld_120, callV_func Try.enters_77, callV_func Try.enters_78, callV_func Try.enters_70, t7,  t9,  t17,  t18, rs_tmp (show Try.f12.results = #[.tmp 6] from rfl)]
      refine lsee_run (d := 1) (p := 9) (now := now) f.toFreeL w12.h (staw 1 0 (by unfold okDom; omega)) (by omega) (by omega) (by omega) (by omega) fun σ13 F13 h13 hF13 hS13 => ?_
      have w13 := w12.call h13 hF13 hS13
      simp only at w13 ⊢
      generalize hR : seeT (delE (kS 1 0) K) 5 (kS 1 0) 9 now = R at *
      rw [d3]
      simp (maxSteps := 2000000) only [B0, B1, B2, B3, B4, B5, B6, B7, Gd, extV, Nat.reduceLT, Nat.reduceEqDiff, Nat.reduceBEq, Nat.reduceAdd, Nat.reduceSub, Nat.reduceMul, ↓reduceIte, reduceCtorEq, if_true, if_false, ite_true, ite_false, Int.reduceLT, Int.reduceLE, ptr, callV_func Try.enters_64, callV_func Try.enters_68, callV_func Try.enters_74, Try.len_100, Try.ia_100, Try.ld_108, allocV_zero Try.zero_108, Try.st_108, Try.fa_108_3, Try.ld_5, callV_func Try.enters_65, Try.fa_108_0, Try.fa_108_2, callV_func Try.enters_67, callV_func Try.enters_69, allocV_zero Try.zero_120, Try.st_120, Try.fa_120_4, Try.ld_4, Try.fa_120_2, Try.ld_3, Try.fa_120_3, Try.ld_2, callV_func Try.enters_75, callV_func Try.enters_76, Try.len_109, Try.ia_109, Try.ld_120, callV_func Try.enters_77, callV_func Try.enters_78, callV_func Try.enters_70, t7,  t9,  t17,  t18,  Int.reduceEq, rs_tmp (show Try.f12.results = #[.tmp 6] from rfl)]
      refine lall_run f.toFreeL w13.h (by omega) fun σ14 v14 hv14 hb14 hS14 => ?_
      have w14 := w13.step hS14
      obtain ⟨a14, c14, rfl, hc14⟩ := hv14.len
      have hwl : IntKind.i64.wrap ((G.length : Int) + (R.1.length : Int)) = (T.length : Int) := by rw [wrap64 (by omega) (by omega)]; omega
      simp (maxSteps := 2000000) only [B0, B1, B2, B3, B4, B5, B6, B7, Gd, extV, Nat.reduceLT, Nat.reduceEqDiff, Nat.reduceBEq, Nat.reduceAdd, Nat.reduceSub, Nat.reduceMul, ↓reduceIte, reduceCtorEq, if_true, if_false, ite_true, ite_false, Int.reduceLT, Int.reduceLE, ptr, callV_func Try.enters_64, callV_func Try.enters_68, callV_func Try.enters_74, Try.len_100, Try.ia_100, Try.ld_108, allocV_zero Try.zero_108, Try.st_108, Try.fa_108_3, Try.ld_5, callV_func Try.enters_65, Try.fa_108_0, Try.fa_108_2, callV_func Try.enters_67, callV_func Try.enters_69, allocV_zero Try.zero_120, Try.st_120, Try.fa_120_4, Try.ld_4, Try.fa_120_2, Try.ld_3, Try.fa_120_3, Try.ld_2, callV_func Try.enters_75, callV_func Try.enters_76, Try.len_109, Try.ia_109, Try.ld_120, callV_func Try.enters_77, callV_func Try.enters_78, callV_func Try.enters_70, t7,  t9,  t17,  t18,  hwl,  eq_self, rs_tmp (show Try.f12.results = #[.tmp 6] from rfl)]
      refine lwakes_run f.toFreeL f.h70 (by omega) fun σ15 hS15 => ?_
      simp (maxSteps := 2000000) only [B0, B1, B2, B3, B4, B5, B6, B7, Gd, extV, Nat.reduceLT, Nat.reduceEqDiff, Nat.reduceBEq, Nat.reduceAdd, Nat.reduceSub, Nat.reduceMul, ↓reduceIte, reduceCtorEq, if_true, if_false, ite_true, ite_false, Int.reduceLT, Int.reduceLE, ptr, callV_func Try.enters_64, callV_func Try.enters_68, callV_func Try.enters_74, Try.len_100, Try.ia_100, Try.ld_108, allocV_zero Try.zero_108, Try.st_108, Try.fa_108_3, Try.ld_5, callV_func Try.enters_65, Try.fa_108_0, Try.fa_108_2, callV_func Try.enters_67, callV_func Try.enters_69, allocV_zero Try.zero_120, Try.st_120, Try.fa_120_4, Try.ld_4, Try.fa_120_2, Try.ld_3, Try.fa_120_3, Try.ld_2, callV_func Try.enters_75, callV_func Try.enters_76, Try.len_109, Try.ia_109, Try.ld_120, callV_func Try.enters_77, callV_func Try.enters_78, callV_func Try.enters_70, rs_tmp (show Try.f12.results = #[.tmp 6] from rfl)]
      exact hQ σ15 (w14.same.trans hS15 nofun)
end Go.Proofs.Ytongccpmdndcgaa.Lrn
end
/- The laws of stations: the table of contracts, what came in; the law on static stations. -/
section
set_option linter.all false
namespace Go.Proofs.Ytongccpmdndcgaa.Lrn
open Go Go.AE Go.Proofs.Ytongccpmdndcgaa.Alm Go.Proofs.Ytongccpmdndcgaa.Tab Go.Sort Go.Proofs Go.RowKit Go.ChangeShapes
set_option maxRecDepth 100000

def tableL : List (FuncId × (List Value → AHeap → Option (Value × AHeap))) := (101, sortFO 2 decA encA srtA 102) :: Try.table
theorem toldL : OrcS False Try.prog [] (orcs tableL) := .cons sort_told Try.told
theorem freeL : FreeS (orcs tableL) := { h102 := rfl, h151 := rfl, h152 := rfl, h153 := rfl, h185 := rfl, h186 := rfl, h234 := rfl, h235 := rfl, h236 := rfl, h237 := rfl, h20 := rfl, h99 := rfl, h154 := rfl, h156 := rfl, h103 := rfl, h105 := rfl, h106 := rfl, h107 := rfl, h19 := rfl, h22 := rfl, h23 := rfl, h24 := rfl, h26 := rfl, h27 := rfl, h28 := rfl, h30 := rfl, h100 := rfl, o101 := rfl, o104 := rfl, h36 := rfl, h37 := rfl, h38 := rfl, h39 := rfl, h40 := rfl, h41 := rfl, h42 := rfl, h46 := rfl, h47 := rfl, h48 := rfl, h49 := rfl, h63 := rfl, h115 := rfl, h117 := rfl, h118 := rfl, h119 := rfl, h120 := rfl, o116 := rfl, o122 := rfl, h72 := rfl, h126 := rfl, h165 := rfl, h166 := rfl, h191 := rfl, h192 := rfl, h193 := rfl, h211 := rfl, h64 := rfl, h65 := rfl, h66 := rfl, h67 := rfl, h69 := rfl, h73 := rfl, h74 := rfl, h75 := rfl, h76 := rfl, h78 := rfl, h127 := rfl, h128 := rfl, h129 := rfl, h130 := rfl, h131 := rfl, h132 := rfl, h10 := rfl, h11 := rfl, h12 := rfl, h68 := rfl, h70 := rfl, h71 := rfl, h77 := rfl, h133 := rfl }
instance : Inhabited Sn := ⟨(0, 0, 0, 0)⟩
theorem encSn_atom (x : Sn) : ∀ v ∈ encSn x, atom v = true := by intro v hv; simp [encSn] at hv; rcases hv with rfl | rfl | rfl | rfl <;> rfl
theorem c108 : Try.prog.cellsOf 108 = 4 := by kernel_rfl
theorem c5 : Try.prog.cellsOf 5 = 1 := by kernel_rfl
theorem u8_nat {n : Int} (h : (Lit.int .u8 n).wf = true) : ∃ m : Nat, n = (m : Int) ∧ m < 256 := by
  simp [Lit.wf, IntKind.min, IntKind.max, IntKind.bits, IntKind.signed] at h
  exact ⟨n.toNat, by omega, by omega⟩
section
variable {H : Type} {enc : TypeId × Value → H} {w : World} {held : Bool} {sp : Nat → Bool} {base : Nat}
theorem decSn (m : Nat) (cs : List Value) (y : DataW H × List MemPlace) (h : DataW.trod enc Try.prog w base sp held m 108 cs = some y) : ∃ z : Sn, cs = encSn z := by
  obtain ⟨ys, n, _, rfl, hl, hlen, hfl⟩ := DataW.trod_struct Try.underlying108 h
  rw [c108] at hl
  match cs, hl with
  | [u0, u1, u2, u3], _ =>
    have one : ∀ i, i < 4 → ∃ y, ys[i]? = some y := fun i hi => ⟨ys[i]'(by rw [hlen]; exact hi), List.getElem?_eq_getElem _⟩
    have g0 := hfl 0 _ rfl
    have g1 := hfl 1 _ rfl
    have g2 := hfl 2 _ rfl
    have g3 := hfl 3 _ rfl
    obtain ⟨y0, e0⟩ := one 0 (by omega)
    obtain ⟨y1, e1⟩ := one 1 (by omega)
    obtain ⟨y2, e2⟩ := one 2 (by omega)
    obtain ⟨y3, e3⟩ := one 3 (by omega)
    rw [e0] at g0
    rw [e1] at g1
    rw [e2] at g2
    rw [e3] at g3
    obtain ⟨a, a0, _, wa⟩ := DataW.trod_int Try.underlying5 g0
    obtain ⟨b, a1, _, wb⟩ := DataW.trod_int Try.underlying5 g1
    obtain ⟨c, a2, _, wc⟩ := DataW.trod_int Try.underlying5 g2
    obtain ⟨d, a3, _, wd⟩ := DataW.trod_int Try.underlying5 g3
    simp [c5] at a0 a1 a2 a3
    subst a0 a1 a2 a3
    obtain ⟨a, rfl, _⟩ := u8_nat wa
    obtain ⟨b, rfl, _⟩ := u8_nat wb
    obtain ⟨c, rfl, _⟩ := u8_nat wc
    obtain ⟨d, rfl, _⟩ := u8_nat wd
    exact ⟨(a, b, c, d), rfl⟩
end
theorem fixed_law {H : Type} {enc : TypeId × Value → H} {w : World} {held : Bool} {a : Option Addr} {len cap : Nat} {d : DataW H} {ps : List MemPlace} (h : DataW.Trod enc Try.prog w 0 (fun _ => true) held 100 (.slice a len cap) d ps) {p q : Int} (hp : (Lit.int .u8 p).wf = true) (hq : (Lit.int .u8 q).wf = true) :
    Calls Try.prog 12 #[.int .u8 p, .slice a len cap, .int .u8 q] w fun e w' => e = .returned (.bool true) ∧ Below w.heap.size w w' := by
  obtain ⟨σ, ρ, v, L, hR, hv, hs, hro⟩ := slice_arg encSnOk encSn_atom Try.underlying100 c108 decSn h
  obtain ⟨p, rfl, _⟩ := u8_nat hp
  obtain ⟨q, rfl, _⟩ := u8_nat hq
  exact open_true (by kernel_rfl) toldL hR hro (.cons (.atom rfl) (.cons hv (.cons (.atom rfl) .nil))) (fixed_run freeL hs (n := 1200) (by omega) fun _ _ => rfl)
end Go.Proofs.Ytongccpmdndcgaa.Lrn
end
