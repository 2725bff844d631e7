/- Texts of this proof, gathered. What each part says stands at its head; conditions: none but those that its theorems name. -/
import Derived.Test.YtongccpmdndcgaaTac
/- Tables: what a call may do. -/
section
set_option linter.all false
namespace Go.Proofs.Ytongccpmdndcgaa.Tab
open Go Go.AE Go.Proofs.Ytongccpmdndcgaa.Alm Go.Sort Go.Proofs
variable {T : List E} {room : Nat} {ref : Bool}

structure Good (T : List E) (room : Nat) (ref : Bool) (w : Int) (k : ByteArray) (T' : List E) (g : E) (c : Int) : Prop where
  same : c ≠ 0 → T' = T
  keep : ∀ x ∈ T, x.1 ≠ k → x.1 ≠ g.1 → getE x.1 T' = some x
  stay : ∀ x ∈ T, x.2.2.2 = true → (w ≠ 5 ∨ x.1 ≠ k) → ∃ y, getE x.1 T' = some y ∧ y.2.2.2 = true
  full : c = 7 → getE k T = none ∧ room ≤ T.length
  more : g.1 = ⟨#[]⟩ → c = 0 → 0 ≤ w → w ≤ 2 → getE k T = none → T'.length = T.length + 1
  gone : g.1 ≠ ⟨#[]⟩ → getE g.1 T' = none ∧ g ∈ T ∧ g.2.2.2 = false ∧ ref = false ∧ getE k T = none ∧ T.length = room ∧ ∀ x ∈ T, x.2.2.2 = false → ¬ (x.2.2.1 < g.2.2.1 ∨ x.2.2.1 = g.2.2.1 ∧ sLt x.1 g.1 = true)
  nog : c ≠ 0 → g.1 = ⟨#[]⟩
theorem Good.still (h : KS T) {w : Int} {k : ByteArray} {c : Int} (h7 : c = 7 → getE k T = none ∧ room ≤ T.length) (h0 : c = 0 → ¬ (0 ≤ w ∧ w ≤ 2)) : Good T room ref w k T zE c :=
  ⟨fun _ => rfl, fun x hx _ _ => getE_mem h.nd hx, fun x hx hs _ => ⟨x, getE_mem h.nd hx, hs⟩, h7, fun _ hc h1 h2 _ => absurd ⟨h1, h2⟩ (h0 hc), fun q => absurd rfl q, fun _ => rfl⟩
theorem Good.lay (h : KS T) (hok : ∀ e ∈ T, okE e) (hl : T.length ≤ room) {e : E} {w : Int} (he : ∀ x, getE e.1 T = some x → x.2.2.2 = true → e.2.2.2 = true) :
    Good T room ref w e.1 (layT T room ref e).1 (layT T room ref e).2.1 (layT T room ref e).2.2 := by
  unfold layT
  split
  · rename_i hf
    have hn : getE e.1 T = none := by have := hf.1; cases q : getE e.1 T with | none => rfl | some x => rw [q] at this; cases this
    cases hA : alS T with
    | nil => exact .still h (fun _ => ⟨hn, hf.2⟩) (fun q => by cases q)
    | cons x0 l =>
      simp only
      cases ref with
      | true => exact .still h (fun _ => ⟨hn, hf.2⟩) (fun q => by cases q)
      | false =>
        simp only [Bool.false_eq_true, if_false]
        obtain ⟨y0, hy, hys, hyg, hya⟩ := get_al h (show x0 ∈ alS T by rw [hA]; simp)
        have hk0 : y0.1 = x0.1 := by rw [← hya]; rfl
        rw [hyg]
        simp only [Option.getD_some]
        have hky : y0.1 ≠ e.1 := fun q => (getE_none.1 hn) y0 hy q
        have hg : ∀ x ∈ T, x.1 ≠ e.1 → x.1 ≠ y0.1 → getE x.1 (putE e (delE x0.1 T)) = some x := fun x hx h1 h2 => by
          rw [getE_put h.del, if_neg h1, getE_del h, if_neg (by rw [← hk0]; exact h2)]
          exact getE_mem h.nd hx
        refine ⟨fun q => absurd rfl q, hg, fun x hx hs _ => ⟨x, hg x hx (fun q => (getE_none.1 hn) x hx q) (fun q => ?_), hs⟩, (fun q => by cases q), fun q => ?_, fun _ => ⟨?_, hy, hys, rfl, hn, ?_, fun x hx hs => ?_⟩, fun q => absurd rfl q⟩
        · have e1 := getE_mem h.nd hx
          have e2 := getE_mem h.nd hy
          rw [q, e2] at e1
          rw [← Option.some.inj e1, hys] at hs
          cases hs
        · have := (okE_iff.1 (hok y0 hy)).1
          rw [q] at this
          cases this
        · rw [getE_put h.del, if_neg hky, getE_del h, if_pos hk0]
        · omega
        · have hm : (x.1, x.2.2.1) ∈ alS T := (alS_mem h).2 ⟨x, hx, hs, rfl⟩
          have hsr := (alS_of h).srt
          rw [hA] at hm hsr
          rcases List.mem_cons.1 hm with q | q
          · rw [← hya] at q
            have q1 : x.1 = y0.1 := congrArg (·.1) q
            have q2 : x.2.2.1 = y0.2.2.1 := congrArg (·.2) q
            rw [q1, q2, sLt_irr]
            simp
          · have hlt := (List.pairwise_cons.1 hsr).1 _ q
            rw [← hya] at hlt
            intro hh
            exact ordOk.asy _ _ hlt (lt_iff.2 (by rcases hh with z | ⟨z, z2⟩; exact .inl z; exact .inr ⟨z, z2⟩))
  · rename_i hf
    refine ⟨fun q => absurd rfl q, fun x hx h1 _ => by rw [getE_put h, if_neg h1]; exact getE_mem h.nd hx, fun x hx hs _ => ?_, (fun q => by cases q), fun _ _ _ _ hn => by rw [putE_len h, hn]; rfl, fun q => absurd rfl q, fun q => absurd rfl q⟩
    by_cases q : x.1 = e.1
    · exact ⟨e, by rw [getE_put h, if_pos q], he x (by rw [← q]; exact getE_mem h.nd hx) hs⟩
    · exact ⟨x, by rw [getE_put h, if_neg q]; exact getE_mem h.nd hx, hs⟩
theorem Good.put (h : KS T) (hok : ∀ e ∈ T, okE e) (hl : T.length ≤ room) (k : ByteArray) (v t : Int) {w : Int} : Good T room ref w k (putT T room ref k v t).1 (putT T room ref k v t).2.1 (putT T room ref k v t).2.2 := by
  unfold putT
  split
  · exact .still h (fun q => by cases q) (fun q => by cases q)
  · split
    · exact .still h (fun q => by cases q) (fun q => by cases q)
    · rename_i hs
      exact Good.lay (e := (k, v, t, false)) h hok hl fun x hx hxs => by rw [hx] at hs; simp [hxs] at hs
theorem Good.fix (h : KS T) (hok : ∀ e ∈ T, okE e) (hl : T.length ≤ room) (k : ByteArray) (v : Int) {w : Int} : Good T room ref w k (fixT T room ref k v).1 (fixT T room ref k v).2.1 (fixT T room ref k v).2.2 := by
  unfold fixT
  split
  · exact .still h (fun q => by cases q) (fun q => by cases q)
  · exact Good.lay (e := (k, v, 0, true)) h hok hl fun _ _ _ => rfl
theorem Good.touch (h : KS T) (k : ByteArray) (t : Int) : Good T room ref 3 k (touchT T k t).1 zE (touchT T k t).2 := by
  unfold touchT
  split
  · exact .still h (fun q => by cases q) (fun q => by cases q)
  · cases hg : getE k T with
    | none => exact .still h (fun q => by cases q) (fun q => by cases q)
    | some e =>
      simp only
      cases hs : e.2.2.2 with
      | true => exact .still h (fun q => by cases q) (fun q => by cases q)
      | false =>
        obtain ⟨hm, hk⟩ := getE_key hg
        simp only [Bool.false_eq_true, if_false]
        refine ⟨fun q => absurd rfl q, fun x hx h1 _ => ?_, fun x hx hxs _ => ?_, (fun q => by cases q), fun _ _ _ q => by omega, fun q => absurd rfl q, fun q => absurd rfl q⟩
        · rw [getE_put h, if_neg (by simp only; rw [hk]; exact h1)]; exact getE_mem h.nd hx
        · have hne : x.1 ≠ e.1 := fun q => by
            have e1 := getE_mem h.nd hx
            rw [q, hk, hg] at e1
            rw [← Option.some.inj e1, hs] at hxs
            cases hxs
          exact ⟨x, by rw [getE_put h, if_neg hne]; exact getE_mem h.nd hx, hxs⟩
theorem Good.drop (h : KS T) (k : ByteArray) : Good T room ref 5 k (dropT T k).1 zE (dropT T k).2 := by
  unfold dropT
  split
  · refine ⟨fun q => absurd rfl q, fun x hx h1 _ => by rw [getE_del h, if_neg h1]; exact getE_mem h.nd hx, fun x hx hxs h1 => ?_, (fun q => by cases q), fun _ _ _ q => by omega, fun q => absurd rfl q, fun q => absurd rfl q⟩
    have h1 : x.1 ≠ k := by rcases h1 with q | q; exact absurd rfl q; exact q
    exact ⟨x, by rw [getE_del h, if_neg h1]; exact getE_mem h.nd hx, hxs⟩
  · exact .still h (fun q => by cases q) (fun q => by cases q)
end Go.Proofs.Ytongccpmdndcgaa.Tab
end
/- The law on a table's bounds: the run. -/
section
set_option linter.all false
namespace Go.Proofs.Ytongccpmdndcgaa.Tab
open Go Go.AE Go.Proofs.Ytongccpmdndcgaa.Alm Go.Sort Go.Proofs
set_option maxRecDepth 100000
set_option maxHeartbeats 2000000
attribute [local irreducible] Go.AE.Tr.put Go.AE.Tr.get
variable {gs : List Nat} {orc : Orc} {n : Nat} {σ : AHeap} {Q : Value × AHeap → Prop}

structure Sl (t : Tr Value) (r : Int) (ref : Bool) (p : Nat) (va0 : Value) (len i b10 : Nat) (vb : Value) (b12 : Nat) (th : Bool) (c : Int) (b15 : Nat) (va : Value) : Prop where
  s0 : t.get 0 = some (.int .u8 r)
  s1 : t.get 1 = some (.bool ref)
  s7 : t.get 7 = some (pt p)
  s40 : t.get 40 = some va0
  s41 : t.get 41 = some (.int .i64 (len : Int))
  s42 : t.get 42 = some (.int .i64 (i : Int))
  s10 : t.get 10 = some (pt b10)
  s11 : t.get 11 = some vb
  s12 : t.get 12 = some (pt b12)
  s13 : t.get 13 = some (.bool th)
  s14 : t.get 14 = some (.int .i64 c)
  s15 : t.get 15 = some (pt b15)
  s16 : t.get 16 = some va
theorem bounds_run (f : FreeV orc) {v : Value} {cl : List Act} {r : Int} {ref : Bool} (hr : 0 ≤ r) (hv : SlR σ 4 encAct v cl) (hn : 1100 ≤ n) (hQ : ∀ σ', Same σ σ' [] → Q (.bool true, σ')) : W (acall Try.prog gs orc (n + 15) 7 [.int .u8 r, .bool ref, v] σ) Q := by
  obtain ⟨a0, c0, rfl⟩ := hv.len
  obtain ⟨room, hroom⟩ : ∃ room : Nat, r.tmod 7 = (room : Int) := ⟨(r.tmod 7).toNat, by have := Int.tmod_nonneg 7 hr; omega⟩
  have hrl : room ≤ 6 := by have := Int.tmod_lt_of_pos r (show (0 : Int) < 7 by omega); omega
  have hrem : ∀ {x y}, bin Try.prog .rem 5 x y (.int .u8 r) (.int .u8 7) = some (.int .u8 (room : Int)) := by intro x y; rw [bin_rem (by decide), hroom]
  have hconv : ∀ {τ : AHeap}, conv Try.prog 5 3 (.int .u8 (room : Int)) τ = some (.int .i64 (room : Int), τ) := by intro τ; rw [conv_int Try.underlying5 Try.underlying3, wrap64 (by omega) (by omega)]
  rw [W_start (m := 308) (keep := []) Try.func7 rfl (by kernel_rfl) (by kernel_rfl) (by first | rfl | assumption | exact f.h7) (by rfl)]
  simp (maxSteps := 2000000) only [B0, B1, B2, B3, B4, B5, B6, B7, Gd, extV, Nat.reduceLT, Nat.reduceEqDiff, Nat.reduceBEq, Nat.reduceAdd, Nat.reduceSub, Nat.reduceMul, ↓reduceIte, reduceCtorEq, if_true, if_false, ite_true, ite_false, Int.reduceLT, Int.reduceLE, ptr, callV_func Try.enters_36, Try.len_60, Try.ia_60, Try.ld_65, allocV_zero Try.zero_65, Try.st_65, callV_func Try.enters_37, Try.fa_65_1, Try.ld_9, callV_func Try.enters_38, allocV_zero Try.zero_69, Try.st_69, Try.fa_65_0, Try.ld_3, Try.fa_65_2, Try.fa_65_3, Try.ld_2, callV_func Try.enters_39, callV_func Try.enters_40, callV_func Try.enters_41, callV_func Try.enters_42, Try.len_66, callV_func Try.enters_43, Try.ia_66, Try.fa_69_0, Try.ld_69, Try.fa_69_3, Try.ld_4, callV_func Try.enters_44, Try.fa_69_2, callV_func Try.enters_45, hrem,  hconv, rs_tmp (show Try.f7.results = #[.tmp 6] from rfl)]
  refine tnew_run (room := room) f.toFreeT (by omega) fun σ2 p F h2 hF2 hS2 => ?_
  have w2 : Own σ σ2 p F [] room ref := ⟨h2, hF2, hS2⟩
  simp (maxSteps := 2000000) only [B0, B1, B2, B3, B4, B5, B6, B7, Gd, extV, Nat.reduceLT, Nat.reduceEqDiff, Nat.reduceBEq, Nat.reduceAdd, Nat.reduceSub, Nat.reduceMul, ↓reduceIte, reduceCtorEq, if_true, if_false, ite_true, ite_false, Int.reduceLT, Int.reduceLE, ptr, callV_func Try.enters_36, Try.len_60, Try.ia_60, Try.ld_65, allocV_zero Try.zero_65, Try.st_65, callV_func Try.enters_37, Try.fa_65_1, Try.ld_9, callV_func Try.enters_38, allocV_zero Try.zero_69, Try.st_69, Try.fa_65_0, Try.ld_3, Try.fa_65_2, Try.fa_65_3, Try.ld_2, callV_func Try.enters_39, callV_func Try.enters_40, callV_func Try.enters_41, callV_func Try.enters_42, Try.len_66, callV_func Try.enters_43, Try.ia_66, Try.fa_69_0, Try.ld_69, Try.fa_69_3, Try.ld_4, callV_func Try.enters_44, Try.fa_69_2, callV_func Try.enters_45, Int.reduceEq,  bin_nilp Try.underlying61, rs_tmp (show Try.f7.results = #[.tmp 6] from rfl)]
  refine W_inv (fun k fr σ' => ∃ (t : Tr Value) (i : Nat) (F : List Nat) (T : List E), fr = ⟨308, t⟩ ∧ t.get 0 = some (.int .u8 r) ∧ t.get 1 = some (.bool ref) ∧ t.get 7 = some (pt p) ∧ t.get 40 = some (.slice a0 cl.length c0) ∧ t.get 41 = some (.int .i64 (cl.length : Int)) ∧ t.get 42 = some (.int .i64 (i : Int)) ∧ k + i = 60 ∧ Own σ σ' p F T room ref) 60 (by omega)
    ⟨_, 0, F, [], rfl, by simp [get_put, get_args], by simp [get_put, get_args], by simp [get_put], by simp [get_put, get_args], by simp [get_put], by simp [get_put], rfl, w2⟩ ?_
  clear w2 hF2 h2 F
  rintro k fr σ3 ⟨t, i, F, T, rfl, t0, t1, t7, t40, t41, t42, hk, w3⟩
  by_cases hlt : i < cl.length
  · have hx := List.getElem?_eq_getElem hlt
    generalize cl[i] = x at hx
    obtain ⟨w, ky, vl, tm⟩ := x
    obtain ⟨bb, o, cap, e, hb, hld⟩ := hv.at_ hx
    injection e with e e2 e3
    subst e e3
    have hld3 : ldCells σ3 bb (o + i * 4) 4 = some [.int .i64 w, .string ky, .int .i64 vl, .int .i64 tm] := by rw [w3.same.ldCells hb nofun]; exact hld
    have hlt' : (i : Int) < (cl.length : Int) := by omega
    obtain ⟨σ4, σ5, e4, t5', w5, x5, hS5⟩ := w3.var 65 [.int .i64 (0), .string ⟨#[]⟩, .int .i64 (0), .int .i64 (0)] [.int .i64 w, .string ky, .int .i64 vl, .int .i64 tm] rfl (by intro v hv; simp at hv; rcases hv with rfl | rfl | rfl | rfl <;> rfl)
    by_cases h60 : i = 60
    · have h60' : ((i : Int) = 60) = True := eq_true (by omega)
      simp (maxSteps := 2000000) only [B0, B1, B2, B3, B4, B5, B6, B7, Gd, extV, Nat.reduceLT, Nat.reduceEqDiff, Nat.reduceBEq, Nat.reduceAdd, Nat.reduceSub, Nat.reduceMul, ↓reduceIte, reduceCtorEq, if_true, if_false, ite_true, ite_false, Int.reduceLT, Int.reduceLE, ptr, callV_func Try.enters_36, Try.len_60, Try.ia_60, Try.ld_65, allocV_zero Try.zero_65, Try.st_65, callV_func Try.enters_37, Try.fa_65_1, Try.ld_9, callV_func Try.enters_38, allocV_zero Try.zero_69, Try.st_69, Try.fa_65_0, Try.ld_3, Try.fa_65_2, Try.fa_65_3, Try.ld_2, callV_func Try.enters_39, callV_func Try.enters_40, callV_func Try.enters_41, callV_func Try.enters_42, Try.len_66, callV_func Try.enters_43, Try.ia_66, Try.fa_69_0, Try.ld_69, Try.fa_69_3, Try.ld_4, callV_func Try.enters_44, Try.fa_69_2, callV_func Try.enters_45, t0,  t1,  t7,  t40,  t41,  t42,  hlt',  hlt,  hld3,  e4,  t5',  Value.cells,  List.size_toArray,  h60', rs_tmp (show Try.f7.results = #[.tmp 6] from rfl)]
      refine wakes_run f.toFreeU f.h45 (by omega) fun σ18 hS18 => ?_
      simp (maxSteps := 2000000) only [B0, B1, B2, B3, B4, B5, B6, B7, Gd, extV, Nat.reduceLT, Nat.reduceEqDiff, Nat.reduceBEq, Nat.reduceAdd, Nat.reduceSub, Nat.reduceMul, ↓reduceIte, reduceCtorEq, if_true, if_false, ite_true, ite_false, Int.reduceLT, Int.reduceLE, ptr, callV_func Try.enters_36, Try.len_60, Try.ia_60, Try.ld_65, allocV_zero Try.zero_65, Try.st_65, callV_func Try.enters_37, Try.fa_65_1, Try.ld_9, callV_func Try.enters_38, allocV_zero Try.zero_69, Try.st_69, Try.fa_65_0, Try.ld_3, Try.fa_65_2, Try.fa_65_3, Try.ld_2, callV_func Try.enters_39, callV_func Try.enters_40, callV_func Try.enters_41, callV_func Try.enters_42, Try.len_66, callV_func Try.enters_43, Try.ia_66, Try.fa_69_0, Try.ld_69, Try.fa_69_3, Try.ld_4, callV_func Try.enters_44, Try.fa_69_2, callV_func Try.enters_45, rs_tmp (show Try.f7.results = #[.tmp 6] from rfl)]
      exact hQ σ18 (w5.same.trans hS18 nofun)
    · have h60' : ((i : Int) = 60) = False := eq_false (by omega)
      have y1 := x5.v.ld (o := 1) rfl
      have hwi : IntKind.i64.wrap ((i : Int) + 1) = ((i + 1 : Nat) : Int) := wrap64 (by omega) (by omega)
      simp (maxSteps := 2000000) only [B0, B1, B2, B3, B4, B5, B6, B7, Gd, extV, Nat.reduceLT, Nat.reduceEqDiff, Nat.reduceBEq, Nat.reduceAdd, Nat.reduceSub, Nat.reduceMul, ↓reduceIte, reduceCtorEq, if_true, if_false, ite_true, ite_false, Int.reduceLT, Int.reduceLE, ptr, callV_func Try.enters_36, Try.len_60, Try.ia_60, Try.ld_65, allocV_zero Try.zero_65, Try.st_65, callV_func Try.enters_37, Try.fa_65_1, Try.ld_9, callV_func Try.enters_38, allocV_zero Try.zero_69, Try.st_69, Try.fa_65_0, Try.ld_3, Try.fa_65_2, Try.fa_65_3, Try.ld_2, callV_func Try.enters_39, callV_func Try.enters_40, callV_func Try.enters_41, callV_func Try.enters_42, Try.len_66, callV_func Try.enters_43, Try.ia_66, Try.fa_69_0, Try.ld_69, Try.fa_69_3, Try.ld_4, callV_func Try.enters_44, Try.fa_69_2, callV_func Try.enters_45, t0,  t1,  t7,  t40,  t41,  t42,  hlt',  hlt,  hld3,  e4,  t5',  Value.cells,  List.size_toArray,  h60',  y1,  hwi,  KInv_normal,  Int.reduceEq, rs_tmp (show Try.f7.results = #[.tmp 6] from rfl)]
      refine all_t f.toFreeU w5.h (by omega) fun σ6 vb hvb hbb hS6 => ?_
      have w6 := w5.step hS6
      have x6 := x5.step hS6
      have y61 := x6.v.ld (o := 1) rfl
      simp (maxSteps := 2000000) only [B0, B1, B2, B3, B4, B5, B6, B7, Gd, extV, Nat.reduceLT, Nat.reduceEqDiff, Nat.reduceBEq, Nat.reduceAdd, Nat.reduceSub, Nat.reduceMul, ↓reduceIte, reduceCtorEq, if_true, if_false, ite_true, ite_false, Int.reduceLT, Int.reduceLE, ptr, callV_func Try.enters_36, Try.len_60, Try.ia_60, Try.ld_65, allocV_zero Try.zero_65, Try.st_65, callV_func Try.enters_37, Try.fa_65_1, Try.ld_9, callV_func Try.enters_38, allocV_zero Try.zero_69, Try.st_69, Try.fa_65_0, Try.ld_3, Try.fa_65_2, Try.fa_65_3, Try.ld_2, callV_func Try.enters_39, callV_func Try.enters_40, callV_func Try.enters_41, callV_func Try.enters_42, Try.len_66, callV_func Try.enters_43, Try.ia_66, Try.fa_69_0, Try.ld_69, Try.fa_69_3, Try.ld_4, callV_func Try.enters_44, Try.fa_69_2, callV_func Try.enters_45, y61, t0,  t1,  t7,  t40,  t41,  t42,  hlt',  hlt,  hld3,  e4,  t5',  Value.cells,  List.size_toArray,  h60',  y1,  hwi,  KInv_normal,  Int.reduceEq, rs_tmp (show Try.f7.results = #[.tmp 6] from rfl)]
      refine get_run f.toFreeT w6.h ky fun σ7 hS7 => ?_
      have w7 := w6.step hS7
      have x7 := x6.step hS7
      obtain ⟨σ8, σ9, e8, t9', w9, z9, hS9⟩ := w7.var 69 (encE zE) (encE ((getE ky T).getD zE)) rfl (encEOk.single _)
      obtain ⟨σ10, σ11, e10, t11', w11, g11, hS11⟩ := w9.var 69 (encE zE) (encE zE) rfl (encEOk.single _)
      have x11 := (x7.step hS9).step hS11
      have z11 := z9.step hS11
      have hvb11 := (((hvb.same hS7 nofun).same hS9 nofun).same hS11 nofun)
      have y10 := x11.v.ld (o := 0) rfl
      have hTl := w11.h.len
      have hvbl := hvb.lt
      have hn67 := hS7.next
      have hn79 := hS9.next
      have hn39 : σ3.next < σ9.next := by have := x7.v.1; omega
      have hn7l : σ7.next < σ9.next := z9.v.1
      have hbb' : ∀ b ∈ blks vb, b ∉ F := fun b hb q => by have := hbb b hb; have := w5.h.low _ q; omega
      obtain ⟨ab, cb, rfl, hcb⟩ := hvb11.len
      simp only [encE] at e8 t9' e10 t11'
      simp only [plainD_region, plainD_cons, plainD_seq, plainD_cond, plainD_block, plainD_loop, plainD_scope, plainD_skip, plainD_ret, plainD_exit, W_skip, W_ret, W_exit, W_ops_nil, W_ops, W_ops_guard, W_some, W_none, KSeq_normal, KSeq_exit, KSeq_ret, KBlk_normal, KBlk_ret, KBlk_exit, KReg_mk, KOp_mk, KRet_normal, KRet_ret, Wc_true, Wc_false, Gd, WGo_tt, WGo_ff, WGo_tf, WGo_ft, WGt_tt, WGt_ff, WGt_tf, WGt_ft, WGo_un, WGt_un, aop_move, aop_assign, aop_pick, aop_alloc, aop_box, aop_build, aop_load, aop_store, aop_nilCheck, aop_binOp, aop_unOp, aop_convert, aop_makeInterface, aop_makeFunc, aop_makeMap, aop_slice, aop_fieldAddr, aop_field, aop_indexAddr, aop_index, aop_lookup, aop_mapUpdate, aop_extract, aop_builtin, aop_call, aop_invoke, aop_typeAssert, aop_buildSlice, eval_tmp, eval_const, eval_func, put_none, put_mk, at_mk, get_put, get_args, withH_some, nilV_ptr, nilV_iface, pickV_true, pickV_false, loadV_ptr, extV, callV_func, allocV_zero, List.append_eq, List.map_cons, List.map_nil, List.nil_append, List.cons_append, List.append_nil, List.getElem?_cons_zero, List.getElem?_cons_succ, List.getElem?_nil, List.length_cons, List.length_nil, Option.map_some, Option.map_none, Option.getD_some, Option.getD_none, Option.bind_some, Option.some.injEq, Nat.zero_add, Nat.add_zero, Nat.reduceLT, Nat.reduceEqDiff, Nat.reduceBEq, Nat.reduceAdd, Nat.reduceSub, Nat.reduceMul, ↓reduceIte, reduceCtorEq, if_true, if_false, ite_true, ite_false, W_tr_nil, W_tr, W_tr_guard, KTr_mk, KRe_mk, W_loopN, KLoop_normal, KLoop_exit, KLoop_ret, Int.cast_ofNat_Int, Int.reduceLT, Int.reduceLE, Int.lt_irrefl, decide_true, decide_false, Bool.not_true, Bool.not_false, retold_nil, retold_cons, RetAt_mk, RetAt_last, retells_eq, sameV_int, sameV_string, sameV_bool, sameV_ptr, sameV_map, sameV_slice, and_true, true_and, ptr, List.getElem?_toArray, loadC_ptr, KInv_exit, KInv_ret, bin_quo2, wrap64_m1, wrap64_half, idx_zero, idx_one, idx_cast, wrap64_1, wrap64_2, bin_lss, bin_leq, bin_gtr, bin_geq, bin_ieql, bin_ineq, bin_add, bin_sub, bin_mul, bin_slss, bin_sgtr, bin_seql, bin_sneq, un_not, Array.toList_map, callV_func Try.enters_36, Try.len_60, Try.ia_60, Try.ld_65, allocV_zero Try.zero_65, Try.st_65, callV_func Try.enters_37, Try.fa_65_1, Try.ld_9, callV_func Try.enters_38, allocV_zero Try.zero_69, Try.st_69, Try.fa_65_0, Try.ld_3, Try.fa_65_2, Try.fa_65_3, Try.ld_2, callV_func Try.enters_39, callV_func Try.enters_40, callV_func Try.enters_41, callV_func Try.enters_42, Try.len_66, callV_func Try.enters_43, Try.ia_66, Try.fa_69_0, Try.ld_69, Try.fa_69_3, Try.ld_4, callV_func Try.enters_44, Try.fa_69_2, callV_func Try.enters_45, enV,  e8,  t9',  bld69z,  e10,  t11',  y10,  KBlk_normal, t0,  t1,  t7,  t40,  t41,  t42,  hlt',  hlt,  hld3,  e4,  t5',  Value.cells,  List.size_toArray,  h60',  y1,  hwi,  KInv_normal,  Int.reduceEq]
      rw [W_seq, W_region]
      simp only [plainD_region, plainD_cons, plainD_seq, plainD_cond, plainD_block, plainD_loop, plainD_scope, plainD_skip, plainD_ret, plainD_exit, W_skip, W_ret, W_exit, W_ops_nil, W_ops, W_ops_guard, W_some, W_none, KSeq_normal, KSeq_exit, KSeq_ret, KBlk_normal, KBlk_ret, KBlk_exit, KReg_mk, KOp_mk, KRet_normal, KRet_ret, Wc_true, Wc_false, Gd, WGo_tt, WGo_ff, WGo_tf, WGo_ft, WGt_tt, WGt_ff, WGt_tf, WGt_ft, WGo_un, WGt_un, aop_move, aop_assign, aop_pick, aop_alloc, aop_box, aop_build, aop_load, aop_store, aop_nilCheck, aop_binOp, aop_unOp, aop_convert, aop_makeInterface, aop_makeFunc, aop_makeMap, aop_slice, aop_fieldAddr, aop_field, aop_indexAddr, aop_index, aop_lookup, aop_mapUpdate, aop_extract, aop_builtin, aop_call, aop_invoke, aop_typeAssert, aop_buildSlice, eval_tmp, eval_const, eval_func, put_none, put_mk, at_mk, get_put, get_args, withH_some, nilV_ptr, nilV_iface, pickV_true, pickV_false, loadV_ptr, extV, callV_func, allocV_zero, List.append_eq, List.map_cons, List.map_nil, List.nil_append, List.cons_append, List.append_nil, List.getElem?_cons_zero, List.getElem?_cons_succ, List.getElem?_nil, List.length_cons, List.length_nil, Option.map_some, Option.map_none, Option.getD_some, Option.getD_none, Option.bind_some, Option.some.injEq, Nat.zero_add, Nat.add_zero, Nat.reduceLT, Nat.reduceEqDiff, Nat.reduceBEq, Nat.reduceAdd, Nat.reduceSub, Nat.reduceMul, ↓reduceIte, reduceCtorEq, if_true, if_false, ite_true, ite_false, W_tr_nil, W_tr, W_tr_guard, KTr_mk, KRe_mk, W_loopN, KLoop_normal, KLoop_exit, KLoop_ret, Int.cast_ofNat_Int, Int.reduceLT, Int.reduceLE, Int.lt_irrefl, decide_true, decide_false, Bool.not_true, Bool.not_false, retold_nil, retold_cons, RetAt_mk, RetAt_last, retells_eq, sameV_int, sameV_string, sameV_bool, sameV_ptr, sameV_map, sameV_slice, and_true, true_and, ptr, List.getElem?_toArray, loadC_ptr, KInv_exit, KInv_ret, bin_quo2, wrap64_m1, wrap64_half, idx_zero, idx_one, idx_cast, wrap64_1, wrap64_2, bin_lss, bin_leq, bin_gtr, bin_geq, bin_ieql, bin_ineq, bin_add, bin_sub, bin_mul, bin_slss, bin_sgtr, bin_seql, bin_sneq, un_not, Array.toList_map, callV_func Try.enters_36, Try.len_60, Try.ia_60, Try.ld_65, allocV_zero Try.zero_65, Try.st_65, callV_func Try.enters_37, Try.fa_65_1, Try.ld_9, callV_func Try.enters_38, allocV_zero Try.zero_69, Try.st_69, Try.fa_65_0, Try.ld_3, Try.fa_65_2, Try.fa_65_3, Try.ld_2, callV_func Try.enters_39, callV_func Try.enters_40, callV_func Try.enters_41, callV_func Try.enters_42, Try.len_66, callV_func Try.enters_43, Try.ia_66, Try.fa_69_0, Try.ld_69, Try.fa_69_3, Try.ld_4, callV_func Try.enters_44, Try.fa_69_2, callV_func Try.enters_45, enV,  e8,  t9',  bld69z,  e10,  t11',  KBlk_normal, t0,  t1,  t7,  t40,  t41,  t42,  hlt',  hlt,  hld3,  e4,  t5',  Value.cells,  List.size_toArray,  h60',  y1,  hwi,  KInv_normal,  Int.reduceEq]
      rw [W_seq]
      have y11 := x11.v.ld (o := 1) rfl
      have y12 := x11.v.ld (o := 2) rfl
      have y13 := x11.v.ld (o := 3) rfl
      have n11 := w11.h.low
      refine W_cut (fun fr' σ' => ∃ (t : Tr Value) (T' : List E) (g : E) (c : Int) (F' : List Nat), fr' = ⟨308, t⟩ ∧ t.get 0 = some (.int .u8 r) ∧ t.get 1 = some (.bool ref) ∧ t.get 7 = some (pt p) ∧ t.get 40 = some (.slice (some ⟨bb, o, none⟩) cl.length c0) ∧ t.get 41 = some (.int .i64 (cl.length : Int)) ∧ t.get 42 = some (.int .i64 (i : Int)) ∧ t.get 10 = some (pt σ3.next) ∧ t.get 11 = some (.slice ab T.length cb) ∧ t.get 12 = some (pt σ7.next) ∧ t.get 13 = some (.bool (getE ky T).isSome) ∧ t.get 14 = some (.int .i64 c) ∧ t.get 15 = some (pt σ9.next) ∧ Own σ σ' p F' T' room ref ∧ VarO σ σ' F' σ3.next [.int .i64 w, .string ky, .int .i64 vl, .int .i64 tm] ∧ VarO σ σ' F' σ7.next (encE ((getE ky T).getD zE)) ∧ VarO σ σ' F' σ9.next (encE g) ∧ SlAt σ' 69 4 encE (.slice ab T.length cb) T ∧ Good T room ref w ky T' g c) ?_ ?_
      · by_cases cp : w = 0 ∨ w = 1 ∨ w = 6 ∨ w = 7
        · rcases cp with rfl | rfl | rfl | rfl
          · simp (maxSteps := 2000000) only [B0, B1, B2, B3, B4, B5, B6, B7, Gd, extV, Nat.reduceLT, Nat.reduceEqDiff, Nat.reduceBEq, Nat.reduceAdd, Nat.reduceSub, Nat.reduceMul, ↓reduceIte, reduceCtorEq, if_true, if_false, ite_true, ite_false, Int.reduceLT, Int.reduceLE, ptr, callV_func Try.enters_36, Try.len_60, Try.ia_60, Try.ld_65, allocV_zero Try.zero_65, Try.st_65, callV_func Try.enters_37, Try.fa_65_1, Try.ld_9, callV_func Try.enters_38, allocV_zero Try.zero_69, Try.st_69, Try.fa_65_0, Try.ld_3, Try.fa_65_2, Try.fa_65_3, Try.ld_2, callV_func Try.enters_39, callV_func Try.enters_40, callV_func Try.enters_41, callV_func Try.enters_42, Try.len_66, callV_func Try.enters_43, Try.ia_66, Try.fa_69_0, Try.ld_69, Try.fa_69_3, Try.ld_4, callV_func Try.enters_44, Try.fa_69_2, callV_func Try.enters_45, y10,  y11,  y12,  y13, t0,  t1,  t7,  t40,  t41,  t42,  hlt',  hlt,  hld3,  e4,  t5',  Value.cells,  List.size_toArray,  h60',  y1,  hwi,  KInv_normal,  Int.reduceEq, rs_tmp (show Try.f7.results = #[.tmp 6] from rfl)]
            refine put_run f.toFreeT w11.h ky vl tm (by omega) fun σ12 F12 h12 hF12 hS12 => ?_
            have gd := Good.put (w := 0) (ref := ref) w11.h.ks w11.h.ok w11.h.len ky vl tm
            generalize putT T room ref ky vl tm = R at *
            obtain ⟨T', g, c⟩ := R
            have w12 := w11.call h12 hF12 hS12
            have x12 := x11.call hF12 hS12
            have z12 := z11.call hF12 hS12
            have g12 := g11.call hF12 hS12
            have hvb12 := hvb11.same hS12 hbb'
            obtain ⟨σ13, t13', w13, g13, hS13⟩ := w12.put g12 (vs' := encE g) rfl (encEOk.single g)
            have d1 : σ3.next ≠ σ9.next := by have := x11.v.1; have := hn39; omega
            have d2 : σ7.next ≠ σ9.next := by omega
            have x13 : VarO σ σ13 F12 σ3.next _ := ⟨x12.v.same hS13 (by simp; exact d1), x12.low, x12.nF⟩
            have z13 : VarO σ σ13 F12 σ7.next _ := ⟨z12.v.same hS13 (by simp; exact d2), z12.low, z12.nF⟩
            have hvb13 := hvb12.same hS13 (fun b hb q => by simp at q; have := hvbl b hb; omega)
            simp only [encE] at t13'
            simp (maxSteps := 2000000) only [B0, B1, B2, B3, B4, B5, B6, B7, Gd, extV, Nat.reduceLT, Nat.reduceEqDiff, Nat.reduceBEq, Nat.reduceAdd, Nat.reduceSub, Nat.reduceMul, ↓reduceIte, reduceCtorEq, if_true, if_false, ite_true, ite_false, Int.reduceLT, Int.reduceLE, ptr, callV_func Try.enters_36, Try.len_60, Try.ia_60, Try.ld_65, allocV_zero Try.zero_65, Try.st_65, callV_func Try.enters_37, Try.fa_65_1, Try.ld_9, callV_func Try.enters_38, allocV_zero Try.zero_69, Try.st_69, Try.fa_65_0, Try.ld_3, Try.fa_65_2, Try.fa_65_3, Try.ld_2, callV_func Try.enters_39, callV_func Try.enters_40, callV_func Try.enters_41, callV_func Try.enters_42, Try.len_66, callV_func Try.enters_43, Try.ia_66, Try.fa_69_0, Try.ld_69, Try.fa_69_3, Try.ld_4, callV_func Try.enters_44, Try.fa_69_2, callV_func Try.enters_45, enV,  Value.cells,  List.size_toArray,  t13', t0,  t1,  t7,  t40,  t41,  t42,  hlt',  hlt,  hld3,  e4,  t5',  Value.cells,  List.size_toArray,  h60',  y1,  hwi,  KInv_normal,  Int.reduceEq, rs_tmp (show Try.f7.results = #[.tmp 6] from rfl)]
            exact ⟨_, _, rfl, _, T', g, c, F12, rfl, by simp [get_put, t0], by simp [get_put, t1], by simp [get_put, t7], by simp [get_put, t40], by simp [get_put, t41], by simp [get_put, t42], by simp [get_put], by simp [get_put], by simp [get_put], by simp [get_put], by simp [get_put], by simp [get_put], w13, x13, z13, g13, hvb13, gd⟩
          · simp (maxSteps := 2000000) only [B0, B1, B2, B3, B4, B5, B6, B7, Gd, extV, Nat.reduceLT, Nat.reduceEqDiff, Nat.reduceBEq, Nat.reduceAdd, Nat.reduceSub, Nat.reduceMul, ↓reduceIte, reduceCtorEq, if_true, if_false, ite_true, ite_false, Int.reduceLT, Int.reduceLE, ptr, callV_func Try.enters_36, Try.len_60, Try.ia_60, Try.ld_65, allocV_zero Try.zero_65, Try.st_65, callV_func Try.enters_37, Try.fa_65_1, Try.ld_9, callV_func Try.enters_38, allocV_zero Try.zero_69, Try.st_69, Try.fa_65_0, Try.ld_3, Try.fa_65_2, Try.fa_65_3, Try.ld_2, callV_func Try.enters_39, callV_func Try.enters_40, callV_func Try.enters_41, callV_func Try.enters_42, Try.len_66, callV_func Try.enters_43, Try.ia_66, Try.fa_69_0, Try.ld_69, Try.fa_69_3, Try.ld_4, callV_func Try.enters_44, Try.fa_69_2, callV_func Try.enters_45, y10,  y11,  y12,  y13, t0,  t1,  t7,  t40,  t41,  t42,  hlt',  hlt,  hld3,  e4,  t5',  Value.cells,  List.size_toArray,  h60',  y1,  hwi,  KInv_normal,  Int.reduceEq, rs_tmp (show Try.f7.results = #[.tmp 6] from rfl)]
            refine put_run f.toFreeT w11.h ky vl tm (by omega) fun σ12 F12 h12 hF12 hS12 => ?_
            have gd := Good.put (w := 1) (ref := ref) w11.h.ks w11.h.ok w11.h.len ky vl tm
            generalize putT T room ref ky vl tm = R at *
            obtain ⟨T', g, c⟩ := R
            have w12 := w11.call h12 hF12 hS12
            have x12 := x11.call hF12 hS12
            have z12 := z11.call hF12 hS12
            have g12 := g11.call hF12 hS12
            have hvb12 := hvb11.same hS12 hbb'
            obtain ⟨σ13, t13', w13, g13, hS13⟩ := w12.put g12 (vs' := encE g) rfl (encEOk.single g)
            have d1 : σ3.next ≠ σ9.next := by have := x11.v.1; have := hn39; omega
            have d2 : σ7.next ≠ σ9.next := by omega
            have x13 : VarO σ σ13 F12 σ3.next _ := ⟨x12.v.same hS13 (by simp; exact d1), x12.low, x12.nF⟩
            have z13 : VarO σ σ13 F12 σ7.next _ := ⟨z12.v.same hS13 (by simp; exact d2), z12.low, z12.nF⟩
            have hvb13 := hvb12.same hS13 (fun b hb q => by simp at q; have := hvbl b hb; omega)
            simp only [encE] at t13'
            simp (maxSteps := 2000000) only [B0, B1, B2, B3, B4, B5, B6, B7, Gd, extV, Nat.reduceLT, Nat.reduceEqDiff, Nat.reduceBEq, Nat.reduceAdd, Nat.reduceSub, Nat.reduceMul, ↓reduceIte, reduceCtorEq, if_true, if_false, ite_true, ite_false, Int.reduceLT, Int.reduceLE, ptr, callV_func Try.enters_36, Try.len_60, Try.ia_60, Try.ld_65, allocV_zero Try.zero_65, Try.st_65, callV_func Try.enters_37, Try.fa_65_1, Try.ld_9, callV_func Try.enters_38, allocV_zero Try.zero_69, Try.st_69, Try.fa_65_0, Try.ld_3, Try.fa_65_2, Try.fa_65_3, Try.ld_2, callV_func Try.enters_39, callV_func Try.enters_40, callV_func Try.enters_41, callV_func Try.enters_42, Try.len_66, callV_func Try.enters_43, Try.ia_66, Try.fa_69_0, Try.ld_69, Try.fa_69_3, Try.ld_4, callV_func Try.enters_44, Try.fa_69_2, callV_func Try.enters_45, enV,  Value.cells,  List.size_toArray,  t13', t0,  t1,  t7,  t40,  t41,  t42,  hlt',  hlt,  hld3,  e4,  t5',  Value.cells,  List.size_toArray,  h60',  y1,  hwi,  KInv_normal,  Int.reduceEq, rs_tmp (show Try.f7.results = #[.tmp 6] from rfl)]
            exact ⟨_, _, rfl, _, T', g, c, F12, rfl, by simp [get_put, t0], by simp [get_put, t1], by simp [get_put, t7], by simp [get_put, t40], by simp [get_put, t41], by simp [get_put, t42], by simp [get_put], by simp [get_put], by simp [get_put], by simp [get_put], by simp [get_put], by simp [get_put], w13, x13, z13, g13, hvb13, gd⟩
          · simp (maxSteps := 2000000) only [B0, B1, B2, B3, B4, B5, B6, B7, Gd, extV, Nat.reduceLT, Nat.reduceEqDiff, Nat.reduceBEq, Nat.reduceAdd, Nat.reduceSub, Nat.reduceMul, ↓reduceIte, reduceCtorEq, if_true, if_false, ite_true, ite_false, Int.reduceLT, Int.reduceLE, ptr, callV_func Try.enters_36, Try.len_60, Try.ia_60, Try.ld_65, allocV_zero Try.zero_65, Try.st_65, callV_func Try.enters_37, Try.fa_65_1, Try.ld_9, callV_func Try.enters_38, allocV_zero Try.zero_69, Try.st_69, Try.fa_65_0, Try.ld_3, Try.fa_65_2, Try.fa_65_3, Try.ld_2, callV_func Try.enters_39, callV_func Try.enters_40, callV_func Try.enters_41, callV_func Try.enters_42, Try.len_66, callV_func Try.enters_43, Try.ia_66, Try.fa_69_0, Try.ld_69, Try.fa_69_3, Try.ld_4, callV_func Try.enters_44, Try.fa_69_2, callV_func Try.enters_45, y10,  y11,  y12,  y13, t0,  t1,  t7,  t40,  t41,  t42,  hlt',  hlt,  hld3,  e4,  t5',  Value.cells,  List.size_toArray,  h60',  y1,  hwi,  KInv_normal,  Int.reduceEq, rs_tmp (show Try.f7.results = #[.tmp 6] from rfl)]
            refine put_run f.toFreeT w11.h ky vl tm (by omega) fun σ12 F12 h12 hF12 hS12 => ?_
            have gd := Good.put (w := 6) (ref := ref) w11.h.ks w11.h.ok w11.h.len ky vl tm
            generalize putT T room ref ky vl tm = R at *
            obtain ⟨T', g, c⟩ := R
            have w12 := w11.call h12 hF12 hS12
            have x12 := x11.call hF12 hS12
            have z12 := z11.call hF12 hS12
            have g12 := g11.call hF12 hS12
            have hvb12 := hvb11.same hS12 hbb'
            obtain ⟨σ13, t13', w13, g13, hS13⟩ := w12.put g12 (vs' := encE g) rfl (encEOk.single g)
            have d1 : σ3.next ≠ σ9.next := by have := x11.v.1; have := hn39; omega
            have d2 : σ7.next ≠ σ9.next := by omega
            have x13 : VarO σ σ13 F12 σ3.next _ := ⟨x12.v.same hS13 (by simp; exact d1), x12.low, x12.nF⟩
            have z13 : VarO σ σ13 F12 σ7.next _ := ⟨z12.v.same hS13 (by simp; exact d2), z12.low, z12.nF⟩
            have hvb13 := hvb12.same hS13 (fun b hb q => by simp at q; have := hvbl b hb; omega)
            simp only [encE] at t13'
            simp (maxSteps := 2000000) only [B0, B1, B2, B3, B4, B5, B6, B7, Gd, extV, Nat.reduceLT, Nat.reduceEqDiff, Nat.reduceBEq, Nat.reduceAdd, Nat.reduceSub, Nat.reduceMul, ↓reduceIte, reduceCtorEq, if_true, if_false, ite_true, ite_false, Int.reduceLT, Int.reduceLE, ptr, callV_func Try.enters_36, Try.len_60, Try.ia_60, Try.ld_65, allocV_zero Try.zero_65, Try.st_65, callV_func Try.enters_37, Try.fa_65_1, Try.ld_9, callV_func Try.enters_38, allocV_zero Try.zero_69, Try.st_69, Try.fa_65_0, Try.ld_3, Try.fa_65_2, Try.fa_65_3, Try.ld_2, callV_func Try.enters_39, callV_func Try.enters_40, callV_func Try.enters_41, callV_func Try.enters_42, Try.len_66, callV_func Try.enters_43, Try.ia_66, Try.fa_69_0, Try.ld_69, Try.fa_69_3, Try.ld_4, callV_func Try.enters_44, Try.fa_69_2, callV_func Try.enters_45, enV,  Value.cells,  List.size_toArray,  t13', t0,  t1,  t7,  t40,  t41,  t42,  hlt',  hlt,  hld3,  e4,  t5',  Value.cells,  List.size_toArray,  h60',  y1,  hwi,  KInv_normal,  Int.reduceEq, rs_tmp (show Try.f7.results = #[.tmp 6] from rfl)]
            exact ⟨_, _, rfl, _, T', g, c, F12, rfl, by simp [get_put, t0], by simp [get_put, t1], by simp [get_put, t7], by simp [get_put, t40], by simp [get_put, t41], by simp [get_put, t42], by simp [get_put], by simp [get_put], by simp [get_put], by simp [get_put], by simp [get_put], by simp [get_put], w13, x13, z13, g13, hvb13, gd⟩
          · simp (maxSteps := 2000000) only [B0, B1, B2, B3, B4, B5, B6, B7, Gd, extV, Nat.reduceLT, Nat.reduceEqDiff, Nat.reduceBEq, Nat.reduceAdd, Nat.reduceSub, Nat.reduceMul, ↓reduceIte, reduceCtorEq, if_true, if_false, ite_true, ite_false, Int.reduceLT, Int.reduceLE, ptr, callV_func Try.enters_36, Try.len_60, Try.ia_60, Try.ld_65, allocV_zero Try.zero_65, Try.st_65, callV_func Try.enters_37, Try.fa_65_1, Try.ld_9, callV_func Try.enters_38, allocV_zero Try.zero_69, Try.st_69, Try.fa_65_0, Try.ld_3, Try.fa_65_2, Try.fa_65_3, Try.ld_2, callV_func Try.enters_39, callV_func Try.enters_40, callV_func Try.enters_41, callV_func Try.enters_42, Try.len_66, callV_func Try.enters_43, Try.ia_66, Try.fa_69_0, Try.ld_69, Try.fa_69_3, Try.ld_4, callV_func Try.enters_44, Try.fa_69_2, callV_func Try.enters_45, y10,  y11,  y12,  y13, t0,  t1,  t7,  t40,  t41,  t42,  hlt',  hlt,  hld3,  e4,  t5',  Value.cells,  List.size_toArray,  h60',  y1,  hwi,  KInv_normal,  Int.reduceEq, rs_tmp (show Try.f7.results = #[.tmp 6] from rfl)]
            refine put_run f.toFreeT w11.h ky vl tm (by omega) fun σ12 F12 h12 hF12 hS12 => ?_
            have gd := Good.put (w := 7) (ref := ref) w11.h.ks w11.h.ok w11.h.len ky vl tm
            generalize putT T room ref ky vl tm = R at *
            obtain ⟨T', g, c⟩ := R
            have w12 := w11.call h12 hF12 hS12
            have x12 := x11.call hF12 hS12
            have z12 := z11.call hF12 hS12
            have g12 := g11.call hF12 hS12
            have hvb12 := hvb11.same hS12 hbb'
            obtain ⟨σ13, t13', w13, g13, hS13⟩ := w12.put g12 (vs' := encE g) rfl (encEOk.single g)
            have d1 : σ3.next ≠ σ9.next := by have := x11.v.1; have := hn39; omega
            have d2 : σ7.next ≠ σ9.next := by omega
            have x13 : VarO σ σ13 F12 σ3.next _ := ⟨x12.v.same hS13 (by simp; exact d1), x12.low, x12.nF⟩
            have z13 : VarO σ σ13 F12 σ7.next _ := ⟨z12.v.same hS13 (by simp; exact d2), z12.low, z12.nF⟩
            have hvb13 := hvb12.same hS13 (fun b hb q => by simp at q; have := hvbl b hb; omega)
            simp only [encE] at t13'
            simp (maxSteps := 2000000) only [B0, B1, B2, B3, B4, B5, B6, B7, Gd, extV, Nat.reduceLT, Nat.reduceEqDiff, Nat.reduceBEq, Nat.reduceAdd, Nat.reduceSub, Nat.reduceMul, ↓reduceIte, reduceCtorEq, if_true, if_false, ite_true, ite_false, Int.reduceLT, Int.reduceLE, ptr, callV_func Try.enters_36, Try.len_60, Try.ia_60, Try.ld_65, allocV_zero Try.zero_65, Try.st_65, callV_func Try.enters_37, Try.fa_65_1, Try.ld_9, callV_func Try.enters_38, allocV_zero Try.zero_69, Try.st_69, Try.fa_65_0, Try.ld_3, Try.fa_65_2, Try.fa_65_3, Try.ld_2, callV_func Try.enters_39, callV_func Try.enters_40, callV_func Try.enters_41, callV_func Try.enters_42, Try.len_66, callV_func Try.enters_43, Try.ia_66, Try.fa_69_0, Try.ld_69, Try.fa_69_3, Try.ld_4, callV_func Try.enters_44, Try.fa_69_2, callV_func Try.enters_45, enV,  Value.cells,  List.size_toArray,  t13', t0,  t1,  t7,  t40,  t41,  t42,  hlt',  hlt,  hld3,  e4,  t5',  Value.cells,  List.size_toArray,  h60',  y1,  hwi,  KInv_normal,  Int.reduceEq, rs_tmp (show Try.f7.results = #[.tmp 6] from rfl)]
            exact ⟨_, _, rfl, _, T', g, c, F12, rfl, by simp [get_put, t0], by simp [get_put, t1], by simp [get_put, t7], by simp [get_put, t40], by simp [get_put, t41], by simp [get_put, t42], by simp [get_put], by simp [get_put], by simp [get_put], by simp [get_put], by simp [get_put], by simp [get_put], w13, x13, z13, g13, hvb13, gd⟩
        · have n0 : (w = 0) = False := eq_false (by omega)
          have n1 : (w = 1) = False := eq_false (by omega)
          have n6 : (w = 6) = False := eq_false (by omega)
          have n7 : (w = 7) = False := eq_false (by omega)
          by_cases cf : w = 2
          · subst cf
            simp (maxSteps := 2000000) only [B0, B1, B2, B3, B4, B5, B6, B7, Gd, extV, Nat.reduceLT, Nat.reduceEqDiff, Nat.reduceBEq, Nat.reduceAdd, Nat.reduceSub, Nat.reduceMul, ↓reduceIte, reduceCtorEq, if_true, if_false, ite_true, ite_false, Int.reduceLT, Int.reduceLE, ptr, callV_func Try.enters_36, Try.len_60, Try.ia_60, Try.ld_65, allocV_zero Try.zero_65, Try.st_65, callV_func Try.enters_37, Try.fa_65_1, Try.ld_9, callV_func Try.enters_38, allocV_zero Try.zero_69, Try.st_69, Try.fa_65_0, Try.ld_3, Try.fa_65_2, Try.fa_65_3, Try.ld_2, callV_func Try.enters_39, callV_func Try.enters_40, callV_func Try.enters_41, callV_func Try.enters_42, Try.len_66, callV_func Try.enters_43, Try.ia_66, Try.fa_69_0, Try.ld_69, Try.fa_69_3, Try.ld_4, callV_func Try.enters_44, Try.fa_69_2, callV_func Try.enters_45, y10,  y11,  y12,  y13, t0,  t1,  t7,  t40,  t41,  t42,  hlt',  hlt,  hld3,  e4,  t5',  Value.cells,  List.size_toArray,  h60',  y1,  hwi,  KInv_normal,  Int.reduceEq, rs_tmp (show Try.f7.results = #[.tmp 6] from rfl)]
            refine fix_run f.toFreeT w11.h ky vl (by omega) fun σ12 F12 h12 hF12 hS12 => ?_
            have gd := Good.fix (w := 2) (ref := ref) w11.h.ks w11.h.ok w11.h.len ky vl
            generalize fixT T room ref ky vl = R at *
            obtain ⟨T', g, c⟩ := R
            have w12 := w11.call h12 hF12 hS12
            have x12 := x11.call hF12 hS12
            have z12 := z11.call hF12 hS12
            have g12 := g11.call hF12 hS12
            have hvb12 := hvb11.same hS12 hbb'
            obtain ⟨σ13, t13', w13, g13, hS13⟩ := w12.put g12 (vs' := encE g) rfl (encEOk.single g)
            have d1 : σ3.next ≠ σ9.next := by have := x11.v.1; have := hn39; omega
            have d2 : σ7.next ≠ σ9.next := by omega
            have x13 : VarO σ σ13 F12 σ3.next _ := ⟨x12.v.same hS13 (by simp; exact d1), x12.low, x12.nF⟩
            have z13 : VarO σ σ13 F12 σ7.next _ := ⟨z12.v.same hS13 (by simp; exact d2), z12.low, z12.nF⟩
            have hvb13 := hvb12.same hS13 (fun b hb q => by simp at q; have := hvbl b hb; omega)
            simp only [encE] at t13'
            simp (maxSteps := 2000000) only [B0, B1, B2, B3, B4, B5, B6, B7, Gd, extV, Nat.reduceLT, Nat.reduceEqDiff, Nat.reduceBEq, Nat.reduceAdd, Nat.reduceSub, Nat.reduceMul, ↓reduceIte, reduceCtorEq, if_true, if_false, ite_true, ite_false, Int.reduceLT, Int.reduceLE, ptr, callV_func Try.enters_36, Try.len_60, Try.ia_60, Try.ld_65, allocV_zero Try.zero_65, Try.st_65, callV_func Try.enters_37, Try.fa_65_1, Try.ld_9, callV_func Try.enters_38, allocV_zero Try.zero_69, Try.st_69, Try.fa_65_0, Try.ld_3, Try.fa_65_2, Try.fa_65_3, Try.ld_2, callV_func Try.enters_39, callV_func Try.enters_40, callV_func Try.enters_41, callV_func Try.enters_42, Try.len_66, callV_func Try.enters_43, Try.ia_66, Try.fa_69_0, Try.ld_69, Try.fa_69_3, Try.ld_4, callV_func Try.enters_44, Try.fa_69_2, callV_func Try.enters_45, enV,  Value.cells,  List.size_toArray,  t13', t0,  t1,  t7,  t40,  t41,  t42,  hlt',  hlt,  hld3,  e4,  t5',  Value.cells,  List.size_toArray,  h60',  y1,  hwi,  KInv_normal,  Int.reduceEq, rs_tmp (show Try.f7.results = #[.tmp 6] from rfl)]
            exact ⟨_, _, rfl, _, T', g, c, F12, rfl, by simp [get_put, t0], by simp [get_put, t1], by simp [get_put, t7], by simp [get_put, t40], by simp [get_put, t41], by simp [get_put, t42], by simp [get_put], by simp [get_put], by simp [get_put], by simp [get_put], by simp [get_put], by simp [get_put], w13, x13, z13, g13, hvb13, gd⟩
          · have n2 : (w = 2) = False := eq_false cf
            by_cases ct : w = 3
            · subst ct
              simp (maxSteps := 2000000) only [B0, B1, B2, B3, B4, B5, B6, B7, Gd, extV, Nat.reduceLT, Nat.reduceEqDiff, Nat.reduceBEq, Nat.reduceAdd, Nat.reduceSub, Nat.reduceMul, ↓reduceIte, reduceCtorEq, if_true, if_false, ite_true, ite_false, Int.reduceLT, Int.reduceLE, ptr, callV_func Try.enters_36, Try.len_60, Try.ia_60, Try.ld_65, allocV_zero Try.zero_65, Try.st_65, callV_func Try.enters_37, Try.fa_65_1, Try.ld_9, callV_func Try.enters_38, allocV_zero Try.zero_69, Try.st_69, Try.fa_65_0, Try.ld_3, Try.fa_65_2, Try.fa_65_3, Try.ld_2, callV_func Try.enters_39, callV_func Try.enters_40, callV_func Try.enters_41, callV_func Try.enters_42, Try.len_66, callV_func Try.enters_43, Try.ia_66, Try.fa_69_0, Try.ld_69, Try.fa_69_3, Try.ld_4, callV_func Try.enters_44, Try.fa_69_2, callV_func Try.enters_45, y10,  y11,  y12,  y13, t0,  t1,  t7,  t40,  t41,  t42,  hlt',  hlt,  hld3,  e4,  t5',  Value.cells,  List.size_toArray,  h60',  y1,  hwi,  KInv_normal,  Int.reduceEq, rs_tmp (show Try.f7.results = #[.tmp 6] from rfl)]
              refine touch_run f.toFreeT w11.h ky tm (by omega) fun σ12 F12 h12 hF12 hS12 => ?_
              have gd := Good.touch (room := room) (ref := ref) w11.h.ks ky tm
              generalize touchT T ky tm = R at *
              obtain ⟨T', c⟩ := R
              simp (maxSteps := 2000000) only [B0, B1, B2, B3, B4, B5, B6, B7, Gd, extV, Nat.reduceLT, Nat.reduceEqDiff, Nat.reduceBEq, Nat.reduceAdd, Nat.reduceSub, Nat.reduceMul, ↓reduceIte, reduceCtorEq, if_true, if_false, ite_true, ite_false, Int.reduceLT, Int.reduceLE, ptr, callV_func Try.enters_36, Try.len_60, Try.ia_60, Try.ld_65, allocV_zero Try.zero_65, Try.st_65, callV_func Try.enters_37, Try.fa_65_1, Try.ld_9, callV_func Try.enters_38, allocV_zero Try.zero_69, Try.st_69, Try.fa_65_0, Try.ld_3, Try.fa_65_2, Try.fa_65_3, Try.ld_2, callV_func Try.enters_39, callV_func Try.enters_40, callV_func Try.enters_41, callV_func Try.enters_42, Try.len_66, callV_func Try.enters_43, Try.ia_66, Try.fa_69_0, Try.ld_69, Try.fa_69_3, Try.ld_4, callV_func Try.enters_44, Try.fa_69_2, callV_func Try.enters_45, t0,  t1,  t7,  t40,  t41,  t42,  hlt',  hlt,  hld3,  e4,  t5',  Value.cells,  List.size_toArray,  h60',  y1,  hwi,  KInv_normal,  Int.reduceEq, rs_tmp (show Try.f7.results = #[.tmp 6] from rfl)]
              exact ⟨_, _, rfl, _, T', zE, c, F12, rfl, by simp [get_put, t0], by simp [get_put, t1], by simp [get_put, t7], by simp [get_put, t40], by simp [get_put, t41], by simp [get_put, t42], by simp [get_put], by simp [get_put], by simp [get_put], by simp [get_put], by simp [get_put], by simp [get_put], w11.call h12 hF12 hS12, x11.call hF12 hS12, z11.call hF12 hS12, g11.call hF12 hS12, hvb11.same hS12 hbb', gd⟩
            · have n3 : (w = 3) = False := eq_false ct
              by_cases cd : w = 5
              · subst cd
                simp (maxSteps := 2000000) only [B0, B1, B2, B3, B4, B5, B6, B7, Gd, extV, Nat.reduceLT, Nat.reduceEqDiff, Nat.reduceBEq, Nat.reduceAdd, Nat.reduceSub, Nat.reduceMul, ↓reduceIte, reduceCtorEq, if_true, if_false, ite_true, ite_false, Int.reduceLT, Int.reduceLE, ptr, callV_func Try.enters_36, Try.len_60, Try.ia_60, Try.ld_65, allocV_zero Try.zero_65, Try.st_65, callV_func Try.enters_37, Try.fa_65_1, Try.ld_9, callV_func Try.enters_38, allocV_zero Try.zero_69, Try.st_69, Try.fa_65_0, Try.ld_3, Try.fa_65_2, Try.fa_65_3, Try.ld_2, callV_func Try.enters_39, callV_func Try.enters_40, callV_func Try.enters_41, callV_func Try.enters_42, Try.len_66, callV_func Try.enters_43, Try.ia_66, Try.fa_69_0, Try.ld_69, Try.fa_69_3, Try.ld_4, callV_func Try.enters_44, Try.fa_69_2, callV_func Try.enters_45, y10,  y11,  y12,  y13, t0,  t1,  t7,  t40,  t41,  t42,  hlt',  hlt,  hld3,  e4,  t5',  Value.cells,  List.size_toArray,  h60',  y1,  hwi,  KInv_normal,  Int.reduceEq, rs_tmp (show Try.f7.results = #[.tmp 6] from rfl)]
                refine drop_t f.toFreeT w11.h ky (by omega) fun σ12 h12 hS12 => ?_
                have gd := Good.drop (room := room) (ref := ref) w11.h.ks ky
                generalize dropT T ky = R at *
                obtain ⟨T', c⟩ := R
                simp (maxSteps := 2000000) only [B0, B1, B2, B3, B4, B5, B6, B7, Gd, extV, Nat.reduceLT, Nat.reduceEqDiff, Nat.reduceBEq, Nat.reduceAdd, Nat.reduceSub, Nat.reduceMul, ↓reduceIte, reduceCtorEq, if_true, if_false, ite_true, ite_false, Int.reduceLT, Int.reduceLE, ptr, callV_func Try.enters_36, Try.len_60, Try.ia_60, Try.ld_65, allocV_zero Try.zero_65, Try.st_65, callV_func Try.enters_37, Try.fa_65_1, Try.ld_9, callV_func Try.enters_38, allocV_zero Try.zero_69, Try.st_69, Try.fa_65_0, Try.ld_3, Try.fa_65_2, Try.fa_65_3, Try.ld_2, callV_func Try.enters_39, callV_func Try.enters_40, callV_func Try.enters_41, callV_func Try.enters_42, Try.len_66, callV_func Try.enters_43, Try.ia_66, Try.fa_69_0, Try.ld_69, Try.fa_69_3, Try.ld_4, callV_func Try.enters_44, Try.fa_69_2, callV_func Try.enters_45, t0,  t1,  t7,  t40,  t41,  t42,  hlt',  hlt,  hld3,  e4,  t5',  Value.cells,  List.size_toArray,  h60',  y1,  hwi,  KInv_normal,  Int.reduceEq, rs_tmp (show Try.f7.results = #[.tmp 6] from rfl)]
                exact ⟨_, _, rfl, _, T', zE, c, F, rfl, by simp [get_put, t0], by simp [get_put, t1], by simp [get_put, t7], by simp [get_put, t40], by simp [get_put, t41], by simp [get_put, t42], by simp [get_put], by simp [get_put], by simp [get_put], by simp [get_put], by simp [get_put], by simp [get_put], w11.call h12 (fun b hb => .inl hb) hS12, x11.call (fun b hb => .inl hb) hS12, z11.call (fun b hb => .inl hb) hS12, g11.call (fun b hb => .inl hb) hS12, hvb11.same hS12 hbb', gd⟩
              · have n5 : (w = 5) = False := eq_false cd
                simp (maxSteps := 2000000) only [B0, B1, B2, B3, B4, B5, B6, B7, Gd, extV, Nat.reduceLT, Nat.reduceEqDiff, Nat.reduceBEq, Nat.reduceAdd, Nat.reduceSub, Nat.reduceMul, ↓reduceIte, reduceCtorEq, if_true, if_false, ite_true, ite_false, Int.reduceLT, Int.reduceLE, ptr, callV_func Try.enters_36, Try.len_60, Try.ia_60, Try.ld_65, allocV_zero Try.zero_65, Try.st_65, callV_func Try.enters_37, Try.fa_65_1, Try.ld_9, callV_func Try.enters_38, allocV_zero Try.zero_69, Try.st_69, Try.fa_65_0, Try.ld_3, Try.fa_65_2, Try.fa_65_3, Try.ld_2, callV_func Try.enters_39, callV_func Try.enters_40, callV_func Try.enters_41, callV_func Try.enters_42, Try.len_66, callV_func Try.enters_43, Try.ia_66, Try.fa_69_0, Try.ld_69, Try.fa_69_3, Try.ld_4, callV_func Try.enters_44, Try.fa_69_2, callV_func Try.enters_45, y10,  n0,  n1,  n2,  n3,  n5,  n6,  n7, t0,  t1,  t7,  t40,  t41,  t42,  hlt',  hlt,  hld3,  e4,  t5',  Value.cells,  List.size_toArray,  h60',  y1,  hwi,  KInv_normal,  Int.reduceEq, rs_tmp (show Try.f7.results = #[.tmp 6] from rfl)]
                exact ⟨_, _, rfl, _, T, zE, 0, F, rfl, by simp [get_put, t0], by simp [get_put, t1], by simp [get_put, t7], by simp [get_put, t40], by simp [get_put, t41], by simp [get_put, t42], by simp [get_put], by simp [get_put], by simp [get_put], by simp [get_put], by simp [get_put], by simp [get_put], w11, x11, z11, g11, hvb11, .still w11.h.ks (fun q => by cases q) (fun _ q => by omega)⟩
      · clear x11 z11 g11 hvb11 w11 hbb' y11 y12 y13 y10 hTl n11
        rintro fr' σ12 ⟨t, T', g, c, F', rfl, t0, t1, t7, t40, t41, t42, t10, t11, t12, t13, t14, t15, w12, x12, z12, g12, hvb12, gd⟩
        rw [KSeq_normal]
        simp (maxSteps := 2000000) only [B0, B1, B2, B3, B4, B5, B6, B7, Gd, extV, Nat.reduceLT, Nat.reduceEqDiff, Nat.reduceBEq, Nat.reduceAdd, Nat.reduceSub, Nat.reduceMul, ↓reduceIte, reduceCtorEq, if_true, if_false, ite_true, ite_false, Int.reduceLT, Int.reduceLE, ptr, callV_func Try.enters_36, Try.len_60, Try.ia_60, Try.ld_65, allocV_zero Try.zero_65, Try.st_65, callV_func Try.enters_37, Try.fa_65_1, Try.ld_9, callV_func Try.enters_38, allocV_zero Try.zero_69, Try.st_69, Try.fa_65_0, Try.ld_3, Try.fa_65_2, Try.fa_65_3, Try.ld_2, callV_func Try.enters_39, callV_func Try.enters_40, callV_func Try.enters_41, callV_func Try.enters_42, Try.len_66, callV_func Try.enters_43, Try.ia_66, Try.fa_69_0, Try.ld_69, Try.fa_69_3, Try.ld_4, callV_func Try.enters_44, Try.fa_69_2, callV_func Try.enters_45, t7, hrem,  hconv,  Int.reduceEq, rs_tmp (show Try.f7.results = #[.tmp 6] from rfl)]
        refine all_t f.toFreeU w12.h (by omega) fun σ13 va hva hba hS13 => ?_
        have w13 := w12.step hS13
        have x13 := x12.step hS13
        have z13 := z12.step hS13
        have g13 := g12.step hS13
        have hvb13 := hvb12.same hS13 nofun
        have hT'l := w13.h.len
        obtain ⟨aa, ca, rfl, hca⟩ := hva.len
        have hgt : ((room : Int) < (T'.length : Int)) = False := eq_false (by omega)
        have hTl := w3.h.len
        simp only [plainD_region, plainD_cons, plainD_seq, plainD_cond, plainD_block, plainD_loop, plainD_scope, plainD_skip, plainD_ret, plainD_exit, W_skip, W_ret, W_exit, W_ops_nil, W_ops, W_ops_guard, W_some, W_none, KSeq_normal, KSeq_exit, KSeq_ret, KBlk_normal, KBlk_ret, KBlk_exit, KReg_mk, KOp_mk, KRet_normal, KRet_ret, Wc_true, Wc_false, Gd, WGo_tt, WGo_ff, WGo_tf, WGo_ft, WGt_tt, WGt_ff, WGt_tf, WGt_ft, WGo_un, WGt_un, aop_move, aop_assign, aop_pick, aop_alloc, aop_box, aop_build, aop_load, aop_store, aop_nilCheck, aop_binOp, aop_unOp, aop_convert, aop_makeInterface, aop_makeFunc, aop_makeMap, aop_slice, aop_fieldAddr, aop_field, aop_indexAddr, aop_index, aop_lookup, aop_mapUpdate, aop_extract, aop_builtin, aop_call, aop_invoke, aop_typeAssert, aop_buildSlice, eval_tmp, eval_const, eval_func, put_none, put_mk, at_mk, get_put, get_args, withH_some, nilV_ptr, nilV_iface, pickV_true, pickV_false, loadV_ptr, extV, callV_func, allocV_zero, List.append_eq, List.map_cons, List.map_nil, List.nil_append, List.cons_append, List.append_nil, List.getElem?_cons_zero, List.getElem?_cons_succ, List.getElem?_nil, List.length_cons, List.length_nil, Option.map_some, Option.map_none, Option.getD_some, Option.getD_none, Option.bind_some, Option.some.injEq, Nat.zero_add, Nat.add_zero, Nat.reduceLT, Nat.reduceEqDiff, Nat.reduceBEq, Nat.reduceAdd, Nat.reduceSub, Nat.reduceMul, ↓reduceIte, reduceCtorEq, if_true, if_false, ite_true, ite_false, W_tr_nil, W_tr, W_tr_guard, KTr_mk, KRe_mk, W_loopN, KLoop_normal, KLoop_exit, KLoop_ret, Int.cast_ofNat_Int, Int.reduceLT, Int.reduceLE, Int.lt_irrefl, decide_true, decide_false, Bool.not_true, Bool.not_false, retold_nil, retold_cons, RetAt_mk, RetAt_last, retells_eq, sameV_int, sameV_string, sameV_bool, sameV_ptr, sameV_map, sameV_slice, and_true, true_and, ptr, List.getElem?_toArray, loadC_ptr, KInv_exit, KInv_ret, bin_quo2, wrap64_m1, wrap64_half, idx_zero, idx_one, idx_cast, wrap64_1, wrap64_2, bin_lss, bin_leq, bin_gtr, bin_geq, bin_ieql, bin_ineq, bin_add, bin_sub, bin_mul, bin_slss, bin_sgtr, bin_seql, bin_sneq, un_not, Array.toList_map, callV_func Try.enters_36, Try.len_60, Try.ia_60, Try.ld_65, allocV_zero Try.zero_65, Try.st_65, callV_func Try.enters_37, Try.fa_65_1, Try.ld_9, callV_func Try.enters_38, allocV_zero Try.zero_69, Try.st_69, Try.fa_65_0, Try.ld_3, Try.fa_65_2, Try.fa_65_3, Try.ld_2, callV_func Try.enters_39, callV_func Try.enters_40, callV_func Try.enters_41, callV_func Try.enters_42, Try.len_66, callV_func Try.enters_43, Try.ia_66, Try.fa_69_0, Try.ld_69, Try.fa_69_3, Try.ld_4, callV_func Try.enters_44, Try.fa_69_2, callV_func Try.enters_45, KBlk_normal, hrem,  hconv,  Int.reduceEq]
        rw [W_seq]
        refine W_cut (fun fr' σ' => σ' = σ13 ∧ ∃ t, fr' = ⟨308, t⟩ ∧ Sl t r ref p (.slice (some ⟨bb, o, none⟩) cl.length c0) cl.length i σ3.next (.slice ab T.length cb) σ7.next (getE ky T).isSome c σ9.next (.slice aa T'.length ca)) ?_ ?_
        · by_cases hc : c = 0
          · have hc' : (c = 0) = True := eq_true hc
            simp (maxSteps := 2000000) only [B0, B1, B2, B3, B4, B5, B6, B7, Gd, extV, Nat.reduceLT, Nat.reduceEqDiff, Nat.reduceBEq, Nat.reduceAdd, Nat.reduceSub, Nat.reduceMul, ↓reduceIte, reduceCtorEq, if_true, if_false, ite_true, ite_false, Int.reduceLT, Int.reduceLE, ptr, callV_func Try.enters_36, Try.len_60, Try.ia_60, Try.ld_65, allocV_zero Try.zero_65, Try.st_65, callV_func Try.enters_37, Try.fa_65_1, Try.ld_9, callV_func Try.enters_38, allocV_zero Try.zero_69, Try.st_69, Try.fa_65_0, Try.ld_3, Try.fa_65_2, Try.fa_65_3, Try.ld_2, callV_func Try.enters_39, callV_func Try.enters_40, callV_func Try.enters_41, callV_func Try.enters_42, Try.len_66, callV_func Try.enters_43, Try.ia_66, Try.fa_69_0, Try.ld_69, Try.fa_69_3, Try.ld_4, callV_func Try.enters_44, Try.fa_69_2, callV_func Try.enters_45, t0,  t11,  t14,  hgt,  hc', hrem,  hconv,  Int.reduceEq, rs_tmp (show Try.f7.results = #[.tmp 6] from rfl)]
            exact ⟨_, _, rfl, rfl, _, rfl, by constructor <;> simp [get_put, t0, t1, t7, t40, t41, t42, t10, t11, t12, t13, t14, t15]⟩
          · have hc' : (c = 0) = False := eq_false hc
            have hTT := gd.same hc
            simp (maxSteps := 2000000) only [B0, B1, B2, B3, B4, B5, B6, B7, Gd, extV, Nat.reduceLT, Nat.reduceEqDiff, Nat.reduceBEq, Nat.reduceAdd, Nat.reduceSub, Nat.reduceMul, ↓reduceIte, reduceCtorEq, if_true, if_false, ite_true, ite_false, Int.reduceLT, Int.reduceLE, ptr, callV_func Try.enters_36, Try.len_60, Try.ia_60, Try.ld_65, allocV_zero Try.zero_65, Try.st_65, callV_func Try.enters_37, Try.fa_65_1, Try.ld_9, callV_func Try.enters_38, allocV_zero Try.zero_69, Try.st_69, Try.fa_65_0, Try.ld_3, Try.fa_65_2, Try.fa_65_3, Try.ld_2, callV_func Try.enters_39, callV_func Try.enters_40, callV_func Try.enters_41, callV_func Try.enters_42, Try.len_66, callV_func Try.enters_43, Try.ia_66, Try.fa_69_0, Try.ld_69, Try.fa_69_3, Try.ld_4, callV_func Try.enters_44, Try.fa_69_2, callV_func Try.enters_45, t0,  t11,  t14,  hgt,  hc', hrem,  hconv,  Int.reduceEq, rs_tmp (show Try.f7.results = #[.tmp 6] from rfl)]
            refine equal_run f.h43 (hvb13.toR encEOk) (hva.toR encEOk) (by omega) (by omega) (by omega) ?_
            rw [decide_eq_true hTT.symm]
            simp (maxSteps := 2000000) only [B0, B1, B2, B3, B4, B5, B6, B7, Gd, extV, Nat.reduceLT, Nat.reduceEqDiff, Nat.reduceBEq, Nat.reduceAdd, Nat.reduceSub, Nat.reduceMul, ↓reduceIte, reduceCtorEq, if_true, if_false, ite_true, ite_false, Int.reduceLT, Int.reduceLE, ptr, callV_func Try.enters_36, Try.len_60, Try.ia_60, Try.ld_65, allocV_zero Try.zero_65, Try.st_65, callV_func Try.enters_37, Try.fa_65_1, Try.ld_9, callV_func Try.enters_38, allocV_zero Try.zero_69, Try.st_69, Try.fa_65_0, Try.ld_3, Try.fa_65_2, Try.fa_65_3, Try.ld_2, callV_func Try.enters_39, callV_func Try.enters_40, callV_func Try.enters_41, callV_func Try.enters_42, Try.len_66, callV_func Try.enters_43, Try.ia_66, Try.fa_69_0, Try.ld_69, Try.fa_69_3, Try.ld_4, callV_func Try.enters_44, Try.fa_69_2, callV_func Try.enters_45, t0,  t11,  t14,  hgt,  hc', hrem,  hconv,  Int.reduceEq, rs_tmp (show Try.f7.results = #[.tmp 6] from rfl)]
            exact ⟨_, _, rfl, rfl, _, rfl, by constructor <;> simp [get_put, t0, t1, t7, t40, t41, t42, t10, t11, t12, t13, t14, t15]⟩
        clear t0 t1 t7 t40 t41 t42 t10 t11 t12 t13 t14 t15
        rintro fr' σ14 ⟨rfl, t, rfl, s⟩
        rw [KSeq_normal]
        simp (maxSteps := 2000000) only [B0, B1, B2, B3, B4, B5, B6, B7, Gd, extV, Nat.reduceLT, Nat.reduceEqDiff, Nat.reduceBEq, Nat.reduceAdd, Nat.reduceSub, Nat.reduceMul, ↓reduceIte, reduceCtorEq, if_true, if_false, ite_true, ite_false, Int.reduceLT, Int.reduceLE, ptr, callV_func Try.enters_36, Try.len_60, Try.ia_60, Try.ld_65, allocV_zero Try.zero_65, Try.st_65, callV_func Try.enters_37, Try.fa_65_1, Try.ld_9, callV_func Try.enters_38, allocV_zero Try.zero_69, Try.st_69, Try.fa_65_0, Try.ld_3, Try.fa_65_2, Try.fa_65_3, Try.ld_2, callV_func Try.enters_39, callV_func Try.enters_40, callV_func Try.enters_41, callV_func Try.enters_42, Try.len_66, callV_func Try.enters_43, Try.ia_66, Try.fa_69_0, Try.ld_69, Try.fa_69_3, Try.ld_4, callV_func Try.enters_44, Try.fa_69_2, callV_func Try.enters_45, hrem,  hconv,  Int.reduceEq,  s.s0,  s.s1,  s.s7,  s.s40,  s.s41,  s.s42,  s.s10,  s.s11,  s.s12,  s.s13,  s.s14,  s.s15,  s.s16,  KInv_normal, rs_tmp (show Try.f7.results = #[.tmp 6] from rfl)]
        refine W_inv (fun m fr σ' => σ' = σ14 ∧ ∃ (t : Tr Value) (j : Nat), fr = ⟨308, t⟩ ∧ Sl t r ref p (.slice (some ⟨bb, o, none⟩) cl.length c0) cl.length i σ3.next (.slice ab T.length cb) σ7.next (getE ky T).isSome c σ9.next (.slice aa T'.length ca) ∧ t.get 17 = some (.int .i64 (j : Int)) ∧ m = T'.length - j ∧ 1 ≤ j) (T'.length - 1) (by omega)
          ⟨rfl, _, 1, rfl, by constructor <;> simp [get_put, s.s0, s.s1, s.s7, s.s40, s.s41, s.s42, s.s10, s.s11, s.s12, s.s13, s.s14, s.s15, s.s16], by simp [get_put], rfl, by omega⟩ ?_
        rintro m fr σ15 ⟨rfl, t, j, rfl, s, t17, rfl, hj1⟩
        by_cases hj : j < T'.length
        · have hx := List.getElem?_eq_getElem hj
          have hj0 : j - 1 < T'.length := by omega
          have hy := List.getElem?_eq_getElem hj0
          have hsl : sLt T'[j - 1].1 T'[j].1 = true := List.pairwise_iff_getElem.1 w13.h.ks _ _ hj0 hj (by omega)
          generalize T'[j] = x at hx hsl
          generalize T'[j - 1] = y at hy hsl
          obtain ⟨b2, o2, cap2, g2, e, hb2, hbl2, hr2⟩ := hva.at_ hx
          injection e with e _ e3
          subst e e3
          have q0 := hr2.ld (j := 0) (v := .string x.1) hx rfl
          have q1 := hr2.ld (j := 0) (v := .string y.1) hy rfl
          simp only [Nat.add_zero] at q0 q1
          have hj' : (j : Int) < (T'.length : Int) := by omega
          have hw0 : IntKind.i64.wrap ((j : Int) - 1) = ((j - 1 : Nat) : Int) := by rw [wrap64 (by omega) (by omega)]; omega
          have hw1 : IntKind.i64.wrap ((j : Int) + 1) = ((j + 1 : Nat) : Int) := wrap64 (by omega) (by omega)
          simp (maxSteps := 2000000) only [B0, B1, B2, B3, B4, B5, B6, B7, Gd, extV, Nat.reduceLT, Nat.reduceEqDiff, Nat.reduceBEq, Nat.reduceAdd, Nat.reduceSub, Nat.reduceMul, ↓reduceIte, reduceCtorEq, if_true, if_false, ite_true, ite_false, Int.reduceLT, Int.reduceLE, ptr, callV_func Try.enters_36, Try.len_60, Try.ia_60, Try.ld_65, allocV_zero Try.zero_65, Try.st_65, callV_func Try.enters_37, Try.fa_65_1, Try.ld_9, callV_func Try.enters_38, allocV_zero Try.zero_69, Try.st_69, Try.fa_65_0, Try.ld_3, Try.fa_65_2, Try.fa_65_3, Try.ld_2, callV_func Try.enters_39, callV_func Try.enters_40, callV_func Try.enters_41, callV_func Try.enters_42, Try.len_66, callV_func Try.enters_43, Try.ia_66, Try.fa_69_0, Try.ld_69, Try.fa_69_3, Try.ld_4, callV_func Try.enters_44, Try.fa_69_2, callV_func Try.enters_45, t17,  hj',  hj,  hj0,  hw0,  hw1,  q0,  q1,  bin_sgeq,  hsl, hrem,  hconv,  Int.reduceEq,  s.s0,  s.s1,  s.s7,  s.s40,  s.s41,  s.s42,  s.s10,  s.s11,  s.s12,  s.s13,  s.s14,  s.s15,  s.s16,  KInv_normal, rs_tmp (show Try.f7.results = #[.tmp 6] from rfl)]
          exact ⟨T'.length - (j + 1), by omega, _, j + 1, rfl, by constructor <;> simp [get_put, s.s0, s.s1, s.s7, s.s40, s.s41, s.s42, s.s10, s.s11, s.s12, s.s13, s.s14, s.s15, s.s16], by simp [get_put], rfl, by omega⟩
        · have hj' : ((j : Int) < (T'.length : Int)) = False := eq_false (by omega)
          simp (maxSteps := 2000000) only [B0, B1, B2, B3, B4, B5, B6, B7, Gd, extV, Nat.reduceLT, Nat.reduceEqDiff, Nat.reduceBEq, Nat.reduceAdd, Nat.reduceSub, Nat.reduceMul, ↓reduceIte, reduceCtorEq, if_true, if_false, ite_true, ite_false, Int.reduceLT, Int.reduceLE, ptr, callV_func Try.enters_36, Try.len_60, Try.ia_60, Try.ld_65, allocV_zero Try.zero_65, Try.st_65, callV_func Try.enters_37, Try.fa_65_1, Try.ld_9, callV_func Try.enters_38, allocV_zero Try.zero_69, Try.st_69, Try.fa_65_0, Try.ld_3, Try.fa_65_2, Try.fa_65_3, Try.ld_2, callV_func Try.enters_39, callV_func Try.enters_40, callV_func Try.enters_41, callV_func Try.enters_42, Try.len_66, callV_func Try.enters_43, Try.ia_66, Try.fa_69_0, Try.ld_69, Try.fa_69_3, Try.ld_4, callV_func Try.enters_44, Try.fa_69_2, callV_func Try.enters_45, t17,  hj', hrem,  hconv,  Int.reduceEq,  s.s0,  s.s1,  s.s7,  s.s40,  s.s41,  s.s42,  s.s10,  s.s11,  s.s12,  s.s13,  s.s14,  s.s15,  s.s16,  KInv_normal, rs_tmp (show Try.f7.results = #[.tmp 6] from rfl)]
          have hks := w3.h.ks
          obtain ⟨aa', hva'⟩ : ∃ aa', (Value.slice aa T'.length ca) = aa' := ⟨_, rfl⟩
          refine W_inv (fun m fr σ' => ∃ (t : Tr Value) (j : Nat), fr = ⟨308, t⟩ ∧ Sl t r ref p (.slice (some ⟨bb, o, none⟩) cl.length c0) cl.length i σ3.next (.slice ab T.length cb) σ7.next (getE ky T).isSome c σ9.next (.slice aa T'.length ca) ∧ t.get 138 = some (.slice ab T.length cb) ∧ t.get 139 = some (.int .i64 (T.length : Int)) ∧ t.get 140 = some (.int .i64 (j : Int)) ∧ m + j = T.length ∧ Same σ15 σ' []) T.length (by omega)
            ⟨_, 0, rfl, by constructor <;> simp [get_put, s.s0, s.s1, s.s7, s.s40, s.s41, s.s42, s.s10, s.s11, s.s12, s.s13, s.s14, s.s15, s.s16], by simp [get_put, s.s11], by simp [get_put], by simp [get_put], rfl, .refl _ _⟩ ?_
          rintro m fr σ16 ⟨t, j, rfl, s, t138, t139, t140, hm, hS16⟩
          by_cases hj : j < T.length
          · have hx := List.getElem?_eq_getElem hj
            have hxm := List.getElem_mem hj
            generalize T[j] = x at hx hxm
            obtain ⟨b2, o2, cap2, g2, e, hb2, hbl2, hr2⟩ := (hvb13.same hS16 nofun).at_ hx
            injection e with e _ e3
            subst e e3
            have hld := hr2.ldCells encEOk hx
            have w16 := w13.step hS16
            obtain ⟨σ17, σ18, e17, t18', w18, u18, hS18⟩ := w16.var 69 (encE zE) (encE x) rfl (encEOk.single x)
            have u0 : ld σ18 σ16.next 0 = some (.string x.1) := u18.v.ld rfl
            simp only [encE] at hld e17 t18'
            have hj' : (j : Int) < (T.length : Int) := by omega
            have hw1 : IntKind.i64.wrap ((j : Int) + 1) = ((j + 1 : Nat) : Int) := wrap64 (by omega) (by omega)
            simp (maxSteps := 2000000) only [B0, B1, B2, B3, B4, B5, B6, B7, Gd, extV, Nat.reduceLT, Nat.reduceEqDiff, Nat.reduceBEq, Nat.reduceAdd, Nat.reduceSub, Nat.reduceMul, ↓reduceIte, reduceCtorEq, if_true, if_false, ite_true, ite_false, Int.reduceLT, Int.reduceLE, ptr, callV_func Try.enters_36, Try.len_60, Try.ia_60, Try.ld_65, allocV_zero Try.zero_65, Try.st_65, callV_func Try.enters_37, Try.fa_65_1, Try.ld_9, callV_func Try.enters_38, allocV_zero Try.zero_69, Try.st_69, Try.fa_65_0, Try.ld_3, Try.fa_65_2, Try.fa_65_3, Try.ld_2, callV_func Try.enters_39, callV_func Try.enters_40, callV_func Try.enters_41, callV_func Try.enters_42, Try.len_66, callV_func Try.enters_43, Try.ia_66, Try.fa_69_0, Try.ld_69, Try.fa_69_3, Try.ld_4, callV_func Try.enters_44, Try.fa_69_2, callV_func Try.enters_45, t138,  t139,  t140,  hj',  hj,  hld,  e17,  t18',  Value.cells,  List.size_toArray,  u0, hrem,  hconv,  Int.reduceEq,  s.s0,  s.s1,  s.s7,  s.s40,  s.s41,  s.s42,  s.s10,  s.s11,  s.s12,  s.s13,  s.s14,  s.s15,  s.s16,  KInv_normal, rs_tmp (show Try.f7.results = #[.tmp 6] from rfl)]
            refine get_run f.toFreeT w18.h x.1 fun σ19 hS19 => ?_
            have w19 := w18.step hS19
            obtain ⟨σ20, σ21, e20, t21', w21, v21, hS21⟩ := w19.var 69 (encE zE) (encE ((getE x.1 T').getD zE)) rfl (encEOk.single _)
            have hS1521 : Same σ15 σ21 [] := ((hS16.trans hS18 nofun).trans hS19 nofun).trans hS21 nofun
            have u21 := (u18.step hS19).step hS21
            have x21 := x13.step hS1521
            have g21 := g13.step hS1521
            have a0 : ld σ21 σ16.next 0 = some (.string x.1) := u21.v.ld rfl
            have a3 : ld σ21 σ16.next 3 = some (.bool x.2.2.2) := u21.v.ld rfl
            have al : ldCells σ21 σ16.next 0 4 = some (encE x) := u21.v.ldCells
            have bl : ldCells σ21 σ19.next 0 4 = some (encE ((getE x.1 T').getD zE)) := v21.v.ldCells
            have b3 : ld σ21 σ19.next 3 = some (.bool ((getE x.1 T').getD zE).2.2.2) := v21.v.ld rfl
            have c0' := x21.v.ld (o := 0) rfl
            have c1' := x21.v.ld (o := 1) rfl
            have d0 : ld σ21 σ9.next 0 = some (.string g.1) := g21.v.ld rfl
            simp only [encE] at e20 t21' al bl
            have hkeep := gd.keep x hxm
            have hstay := gd.stay x hxm
            by_cases e1 : x.1 = ky
            · have e1' : (x.1 = ky) = True := eq_true e1
              cases hst : x.2.2.2 with
              | false =>
                rw [hst] at a3
                simp (maxSteps := 2000000) only [B0, B1, B2, B3, B4, B5, B6, B7, Gd, extV, Nat.reduceLT, Nat.reduceEqDiff, Nat.reduceBEq, Nat.reduceAdd, Nat.reduceSub, Nat.reduceMul, ↓reduceIte, reduceCtorEq, if_true, if_false, ite_true, ite_false, Int.reduceLT, Int.reduceLE, ptr, callV_func Try.enters_36, Try.len_60, Try.ia_60, Try.ld_65, allocV_zero Try.zero_65, Try.st_65, callV_func Try.enters_37, Try.fa_65_1, Try.ld_9, callV_func Try.enters_38, allocV_zero Try.zero_69, Try.st_69, Try.fa_65_0, Try.ld_3, Try.fa_65_2, Try.fa_65_3, Try.ld_2, callV_func Try.enters_39, callV_func Try.enters_40, callV_func Try.enters_41, callV_func Try.enters_42, Try.len_66, callV_func Try.enters_43, Try.ia_66, Try.fa_69_0, Try.ld_69, Try.fa_69_3, Try.ld_4, callV_func Try.enters_44, Try.fa_69_2, callV_func Try.enters_45, e1', hrem,  hconv,  Int.reduceEq,  s.s0,  s.s1,  s.s7,  s.s40,  s.s41,  s.s42,  s.s10,  s.s11,  s.s12,  s.s13,  s.s14,  s.s15,  s.s16,  KInv_normal,  t138,  t139,  t140,  enV,  e20,  t21',  Value.cells,  List.size_toArray,  a0,  a3,  al,  bl,  b3,  c0',  c1',  d0,  bin_en_ne,  hw1, rs_tmp (show Try.f7.results = #[.tmp 6] from rfl)]
                exact ⟨T.length - (j + 1), by omega, _, j + 1, rfl, by constructor <;> simp [get_put, s.s0, s.s1, s.s7, s.s40, s.s41, s.s42, s.s10, s.s11, s.s12, s.s13, s.s14, s.s15, s.s16], by simp [get_put, t138], by simp [get_put, t139], by simp [get_put], by omega, hS1521⟩
              | true =>
                rw [hst] at a3
                by_cases e5 : w = 5
                · have e5' : (w = 5) = True := eq_true e5
                  simp (maxSteps := 2000000) only [B0, B1, B2, B3, B4, B5, B6, B7, Gd, extV, Nat.reduceLT, Nat.reduceEqDiff, Nat.reduceBEq, Nat.reduceAdd, Nat.reduceSub, Nat.reduceMul, ↓reduceIte, reduceCtorEq, if_true, if_false, ite_true, ite_false, Int.reduceLT, Int.reduceLE, ptr, callV_func Try.enters_36, Try.len_60, Try.ia_60, Try.ld_65, allocV_zero Try.zero_65, Try.st_65, callV_func Try.enters_37, Try.fa_65_1, Try.ld_9, callV_func Try.enters_38, allocV_zero Try.zero_69, Try.st_69, Try.fa_65_0, Try.ld_3, Try.fa_65_2, Try.fa_65_3, Try.ld_2, callV_func Try.enters_39, callV_func Try.enters_40, callV_func Try.enters_41, callV_func Try.enters_42, Try.len_66, callV_func Try.enters_43, Try.ia_66, Try.fa_69_0, Try.ld_69, Try.fa_69_3, Try.ld_4, callV_func Try.enters_44, Try.fa_69_2, callV_func Try.enters_45, e1',  e5', hrem,  hconv,  Int.reduceEq,  s.s0,  s.s1,  s.s7,  s.s40,  s.s41,  s.s42,  s.s10,  s.s11,  s.s12,  s.s13,  s.s14,  s.s15,  s.s16,  KInv_normal,  t138,  t139,  t140,  enV,  e20,  t21',  Value.cells,  List.size_toArray,  a0,  a3,  al,  bl,  b3,  c0',  c1',  d0,  bin_en_ne,  hw1, rs_tmp (show Try.f7.results = #[.tmp 6] from rfl)]
                  exact ⟨T.length - (j + 1), by omega, _, j + 1, rfl, by constructor <;> simp [get_put, s.s0, s.s1, s.s7, s.s40, s.s41, s.s42, s.s10, s.s11, s.s12, s.s13, s.s14, s.s15, s.s16], by simp [get_put, t138], by simp [get_put, t139], by simp [get_put], by omega, hS1521⟩
                · have e5' : (w = 5) = False := eq_false e5
                  obtain ⟨y, hy, hys⟩ := hstay hst (.inl e5)
                  simp only [hy, Option.getD_some] at b3 bl t21'
                  rw [hys] at b3
                  simp (maxSteps := 2000000) only [B0, B1, B2, B3, B4, B5, B6, B7, Gd, extV, Nat.reduceLT, Nat.reduceEqDiff, Nat.reduceBEq, Nat.reduceAdd, Nat.reduceSub, Nat.reduceMul, ↓reduceIte, reduceCtorEq, if_true, if_false, ite_true, ite_false, Int.reduceLT, Int.reduceLE, ptr, callV_func Try.enters_36, Try.len_60, Try.ia_60, Try.ld_65, allocV_zero Try.zero_65, Try.st_65, callV_func Try.enters_37, Try.fa_65_1, Try.ld_9, callV_func Try.enters_38, allocV_zero Try.zero_69, Try.st_69, Try.fa_65_0, Try.ld_3, Try.fa_65_2, Try.fa_65_3, Try.ld_2, callV_func Try.enters_39, callV_func Try.enters_40, callV_func Try.enters_41, callV_func Try.enters_42, Try.len_66, callV_func Try.enters_43, Try.ia_66, Try.fa_69_0, Try.ld_69, Try.fa_69_3, Try.ld_4, callV_func Try.enters_44, Try.fa_69_2, callV_func Try.enters_45, e1',  e5',  hy,  Option.isSome_some, hrem,  hconv,  Int.reduceEq,  s.s0,  s.s1,  s.s7,  s.s40,  s.s41,  s.s42,  s.s10,  s.s11,  s.s12,  s.s13,  s.s14,  s.s15,  s.s16,  KInv_normal,  t138,  t139,  t140,  enV,  e20,  t21',  Value.cells,  List.size_toArray,  a0,  a3,  al,  bl,  b3,  c0',  c1',  d0,  bin_en_ne,  hw1, rs_tmp (show Try.f7.results = #[.tmp 6] from rfl)]
                  exact ⟨T.length - (j + 1), by omega, _, j + 1, rfl, by constructor <;> simp [get_put, s.s0, s.s1, s.s7, s.s40, s.s41, s.s42, s.s10, s.s11, s.s12, s.s13, s.s14, s.s15, s.s16], by simp [get_put, t138], by simp [get_put, t139], by simp [get_put], by omega, hS1521⟩
            · have e1' : (x.1 = ky) = False := eq_false e1
              by_cases e2 : x.1 = g.1
              · have e2' : (x.1 = g.1) = True := eq_true e2
                have hgz : g.1 ≠ ⟨#[]⟩ := fun q => by have := (okE_iff.1 (w3.h.ok x hxm)).1; rw [e2, q] at this; cases this
                obtain ⟨_, hgT, hgs, _⟩ := gd.gone hgz
                have hxg : x = g := by
                  have q1 := getE_mem hks.nd hxm
                  have q2 := getE_mem hks.nd hgT
                  rw [e2, q2] at q1
                  exact (Option.some.inj q1).symm
                have hst : x.2.2.2 = false := by rw [hxg]; exact hgs
                rw [hst] at a3
                simp (maxSteps := 2000000) only [B0, B1, B2, B3, B4, B5, B6, B7, Gd, extV, Nat.reduceLT, Nat.reduceEqDiff, Nat.reduceBEq, Nat.reduceAdd, Nat.reduceSub, Nat.reduceMul, ↓reduceIte, reduceCtorEq, if_true, if_false, ite_true, ite_false, Int.reduceLT, Int.reduceLE, ptr, callV_func Try.enters_36, Try.len_60, Try.ia_60, Try.ld_65, allocV_zero Try.zero_65, Try.st_65, callV_func Try.enters_37, Try.fa_65_1, Try.ld_9, callV_func Try.enters_38, allocV_zero Try.zero_69, Try.st_69, Try.fa_65_0, Try.ld_3, Try.fa_65_2, Try.fa_65_3, Try.ld_2, callV_func Try.enters_39, callV_func Try.enters_40, callV_func Try.enters_41, callV_func Try.enters_42, Try.len_66, callV_func Try.enters_43, Try.ia_66, Try.fa_69_0, Try.ld_69, Try.fa_69_3, Try.ld_4, callV_func Try.enters_44, Try.fa_69_2, callV_func Try.enters_45, e1',  e2', hrem,  hconv,  Int.reduceEq,  s.s0,  s.s1,  s.s7,  s.s40,  s.s41,  s.s42,  s.s10,  s.s11,  s.s12,  s.s13,  s.s14,  s.s15,  s.s16,  KInv_normal,  t138,  t139,  t140,  enV,  e20,  t21',  Value.cells,  List.size_toArray,  a0,  a3,  al,  bl,  b3,  c0',  c1',  d0,  bin_en_ne,  hw1, rs_tmp (show Try.f7.results = #[.tmp 6] from rfl)]
                exact ⟨T.length - (j + 1), by omega, _, j + 1, rfl, by constructor <;> simp [get_put, s.s0, s.s1, s.s7, s.s40, s.s41, s.s42, s.s10, s.s11, s.s12, s.s13, s.s14, s.s15, s.s16], by simp [get_put, t138], by simp [get_put, t139], by simp [get_put], by omega, hS1521⟩
              · have e2' : (x.1 = g.1) = False := eq_false e2
                have hg := hkeep e1 e2
                have hxx : (((x.1, x.2.1, x.2.2.1, x.2.2.2) : E) = (x.1, x.2.1, x.2.2.1, x.2.2.2)) = True := eq_true rfl
                simp only [hg, Option.getD_some] at b3 bl t21'
                cases hst : x.2.2.2 with
                | false =>
                  rw [hst] at a3 b3 al bl t21'
                  simp (maxSteps := 2000000) only [B0, B1, B2, B3, B4, B5, B6, B7, Gd, extV, Nat.reduceLT, Nat.reduceEqDiff, Nat.reduceBEq, Nat.reduceAdd, Nat.reduceSub, Nat.reduceMul, ↓reduceIte, reduceCtorEq, if_true, if_false, ite_true, ite_false, Int.reduceLT, Int.reduceLE, ptr, callV_func Try.enters_36, Try.len_60, Try.ia_60, Try.ld_65, allocV_zero Try.zero_65, Try.st_65, callV_func Try.enters_37, Try.fa_65_1, Try.ld_9, callV_func Try.enters_38, allocV_zero Try.zero_69, Try.st_69, Try.fa_65_0, Try.ld_3, Try.fa_65_2, Try.fa_65_3, Try.ld_2, callV_func Try.enters_39, callV_func Try.enters_40, callV_func Try.enters_41, callV_func Try.enters_42, Try.len_66, callV_func Try.enters_43, Try.ia_66, Try.fa_69_0, Try.ld_69, Try.fa_69_3, Try.ld_4, callV_func Try.enters_44, Try.fa_69_2, callV_func Try.enters_45, e1',  e2',  hst,  hg,  Option.isSome_some,  Option.getD_some, hrem,  hconv,  Int.reduceEq,  s.s0,  s.s1,  s.s7,  s.s40,  s.s41,  s.s42,  s.s10,  s.s11,  s.s12,  s.s13,  s.s14,  s.s15,  s.s16,  KInv_normal,  t138,  t139,  t140,  enV,  e20,  t21',  Value.cells,  List.size_toArray,  a0,  a3,  al,  bl,  b3,  c0',  c1',  d0,  bin_en_ne,  hw1, rs_tmp (show Try.f7.results = #[.tmp 6] from rfl)]
                  exact ⟨T.length - (j + 1), by omega, _, j + 1, rfl, by constructor <;> simp [get_put, s.s0, s.s1, s.s7, s.s40, s.s41, s.s42, s.s10, s.s11, s.s12, s.s13, s.s14, s.s15, s.s16], by simp [get_put, t138], by simp [get_put, t139], by simp [get_put], by omega, hS1521⟩
                | true =>
                  rw [hst] at a3 b3 al bl t21'
                  by_cases e5 : w = 5
                  · have e5' : (w = 5) = True := eq_true e5
                    simp (maxSteps := 2000000) only [B0, B1, B2, B3, B4, B5, B6, B7, Gd, extV, Nat.reduceLT, Nat.reduceEqDiff, Nat.reduceBEq, Nat.reduceAdd, Nat.reduceSub, Nat.reduceMul, ↓reduceIte, reduceCtorEq, if_true, if_false, ite_true, ite_false, Int.reduceLT, Int.reduceLE, ptr, callV_func Try.enters_36, Try.len_60, Try.ia_60, Try.ld_65, allocV_zero Try.zero_65, Try.st_65, callV_func Try.enters_37, Try.fa_65_1, Try.ld_9, callV_func Try.enters_38, allocV_zero Try.zero_69, Try.st_69, Try.fa_65_0, Try.ld_3, Try.fa_65_2, Try.fa_65_3, Try.ld_2, callV_func Try.enters_39, callV_func Try.enters_40, callV_func Try.enters_41, callV_func Try.enters_42, Try.len_66, callV_func Try.enters_43, Try.ia_66, Try.fa_69_0, Try.ld_69, Try.fa_69_3, Try.ld_4, callV_func Try.enters_44, Try.fa_69_2, callV_func Try.enters_45, e1',  e2',  hst,  hg,  Option.isSome_some,  Option.getD_some,  e5', hrem,  hconv,  Int.reduceEq,  s.s0,  s.s1,  s.s7,  s.s40,  s.s41,  s.s42,  s.s10,  s.s11,  s.s12,  s.s13,  s.s14,  s.s15,  s.s16,  KInv_normal,  t138,  t139,  t140,  enV,  e20,  t21',  Value.cells,  List.size_toArray,  a0,  a3,  al,  bl,  b3,  c0',  c1',  d0,  bin_en_ne,  hw1, rs_tmp (show Try.f7.results = #[.tmp 6] from rfl)]
                    exact ⟨T.length - (j + 1), by omega, _, j + 1, rfl, by constructor <;> simp [get_put, s.s0, s.s1, s.s7, s.s40, s.s41, s.s42, s.s10, s.s11, s.s12, s.s13, s.s14, s.s15, s.s16], by simp [get_put, t138], by simp [get_put, t139], by simp [get_put], by omega, hS1521⟩
                  · have e5' : (w = 5) = False := eq_false e5
                    simp (maxSteps := 2000000) only [B0, B1, B2, B3, B4, B5, B6, B7, Gd, extV, Nat.reduceLT, Nat.reduceEqDiff, Nat.reduceBEq, Nat.reduceAdd, Nat.reduceSub, Nat.reduceMul, ↓reduceIte, reduceCtorEq, if_true, if_false, ite_true, ite_false, Int.reduceLT, Int.reduceLE, ptr, callV_func Try.enters_36, Try.len_60, Try.ia_60, Try.ld_65, allocV_zero Try.zero_65, Try.st_65, callV_func Try.enters_37, Try.fa_65_1, Try.ld_9, callV_func Try.enters_38, allocV_zero Try.zero_69, Try.st_69, Try.fa_65_0, Try.ld_3, Try.fa_65_2, Try.fa_65_3, Try.ld_2, callV_func Try.enters_39, callV_func Try.enters_40, callV_func Try.enters_41, callV_func Try.enters_42, Try.len_66, callV_func Try.enters_43, Try.ia_66, Try.fa_69_0, Try.ld_69, Try.fa_69_3, Try.ld_4, callV_func Try.enters_44, Try.fa_69_2, callV_func Try.enters_45, e1',  e2',  hst,  hg,  Option.isSome_some,  Option.getD_some,  e5', hrem,  hconv,  Int.reduceEq,  s.s0,  s.s1,  s.s7,  s.s40,  s.s41,  s.s42,  s.s10,  s.s11,  s.s12,  s.s13,  s.s14,  s.s15,  s.s16,  KInv_normal,  t138,  t139,  t140,  enV,  e20,  t21',  Value.cells,  List.size_toArray,  a0,  a3,  al,  bl,  b3,  c0',  c1',  d0,  bin_en_ne,  hw1, rs_tmp (show Try.f7.results = #[.tmp 6] from rfl)]
                    exact ⟨T.length - (j + 1), by omega, _, j + 1, rfl, by constructor <;> simp [get_put, s.s0, s.s1, s.s7, s.s40, s.s41, s.s42, s.s10, s.s11, s.s12, s.s13, s.s14, s.s15, s.s16], by simp [get_put, t138], by simp [get_put, t139], by simp [get_put], by omega, hS1521⟩
          · have hj' : ((j : Int) < (T.length : Int)) = False := eq_false (by omega)
            have w16 := w13.step hS16
            have x16 := x13.step hS16
            have g16 := g13.step hS16
            have z16 := z13.step hS16
            have hvb16 := hvb13.same hS16 nofun
            have d0 : ld σ16 σ9.next 0 = some (.string g.1) := g16.v.ld rfl
            have d2 : ld σ16 σ9.next 2 = some (.int .i64 g.2.2.1) := g16.v.ld rfl
            have dl : ldCells σ16 σ9.next 0 4 = some (encE g) := g16.v.ldCells
            have e0' := x16.v.ld (o := 0) rfl
            have hwT : IntKind.i64.wrap ((T.length : Int) + 1) = ((T.length + 1 : Nat) : Int) := wrap64 (by omega) (by omega)
            simp only [encE] at dl
            by_cases c7 : c = 7
            · obtain ⟨hnone, hful⟩ := gd.full c7
              have hg0 := gd.nog (by omega)
              have c7' : (c = 7) = True := eq_true c7
              have c0' : (c = 0) = False := eq_false (by omega)
              have hg0' : (g.1 = ⟨#[]⟩) = True := eq_true hg0
              have hlt7 : ((T.length : Int) < (room : Int)) = False := eq_false (by omega)
              simp (maxSteps := 2000000) only [B0, B1, B2, B3, B4, B5, B6, B7, Gd, extV, Nat.reduceLT, Nat.reduceEqDiff, Nat.reduceBEq, Nat.reduceAdd, Nat.reduceSub, Nat.reduceMul, ↓reduceIte, reduceCtorEq, if_true, if_false, ite_true, ite_false, Int.reduceLT, Int.reduceLE, ptr, callV_func Try.enters_36, Try.len_60, Try.ia_60, Try.ld_65, allocV_zero Try.zero_65, Try.st_65, callV_func Try.enters_37, Try.fa_65_1, Try.ld_9, callV_func Try.enters_38, allocV_zero Try.zero_69, Try.st_69, Try.fa_65_0, Try.ld_3, Try.fa_65_2, Try.fa_65_3, Try.ld_2, callV_func Try.enters_39, callV_func Try.enters_40, callV_func Try.enters_41, callV_func Try.enters_42, Try.len_66, callV_func Try.enters_43, Try.ia_66, Try.fa_69_0, Try.ld_69, Try.fa_69_3, Try.ld_4, callV_func Try.enters_44, Try.fa_69_2, callV_func Try.enters_45, c7',  c0',  hg0',  hlt7,  hnone,  Option.isSome_none, hrem,  hconv,  Int.reduceEq,  s.s0,  s.s1,  s.s7,  s.s40,  s.s41,  s.s42,  s.s10,  s.s11,  s.s12,  s.s13,  s.s14,  s.s15,  s.s16,  KInv_normal,  hwi,  t138,  t139,  t140,  hj',  d0,  e0',  hwT, rs_tmp (show Try.f7.results = #[.tmp 6] from rfl)]
              exact ⟨59 - i, by omega, _, i + 1, F', T', rfl, by simp [get_put, s.s0], by simp [get_put, s.s1], by simp [get_put, s.s7], by simp [get_put, s.s40], by simp [get_put, s.s41], by simp [get_put], by omega, w16⟩
            · have c7' : (c = 7) = False := eq_false c7
              by_cases hg0 : g.1 = ⟨#[]⟩
              · have hg0' : (g.1 = ⟨#[]⟩) = True := eq_true hg0
                by_cases hc0 : c = 0
                · have c0' : (c = 0) = True := eq_true hc0
                  by_cases hw0 : 0 ≤ w
                  · have hw0' : (0 ≤ w) = True := eq_true hw0
                    by_cases hw2 : w ≤ 2
                    · have hw2' : (w ≤ 2) = True := eq_true hw2
                      cases hth : getE ky T with
                      | some y =>
                        simp (maxSteps := 2000000) only [B0, B1, B2, B3, B4, B5, B6, B7, Gd, extV, Nat.reduceLT, Nat.reduceEqDiff, Nat.reduceBEq, Nat.reduceAdd, Nat.reduceSub, Nat.reduceMul, ↓reduceIte, reduceCtorEq, if_true, if_false, ite_true, ite_false, Int.reduceLT, Int.reduceLE, ptr, callV_func Try.enters_36, Try.len_60, Try.ia_60, Try.ld_65, allocV_zero Try.zero_65, Try.st_65, callV_func Try.enters_37, Try.fa_65_1, Try.ld_9, callV_func Try.enters_38, allocV_zero Try.zero_69, Try.st_69, Try.fa_65_0, Try.ld_3, Try.fa_65_2, Try.fa_65_3, Try.ld_2, callV_func Try.enters_39, callV_func Try.enters_40, callV_func Try.enters_41, callV_func Try.enters_42, Try.len_66, callV_func Try.enters_43, Try.ia_66, Try.fa_69_0, Try.ld_69, Try.fa_69_3, Try.ld_4, callV_func Try.enters_44, Try.fa_69_2, callV_func Try.enters_45, c7',  c0',  hg0',  hw0',  hw2',  hth,  Option.isSome_some, hrem,  hconv,  Int.reduceEq,  s.s0,  s.s1,  s.s7,  s.s40,  s.s41,  s.s42,  s.s10,  s.s11,  s.s12,  s.s13,  s.s14,  s.s15,  s.s16,  KInv_normal,  hwi,  t138,  t139,  t140,  hj',  d0,  e0',  hwT, rs_tmp (show Try.f7.results = #[.tmp 6] from rfl)]
                        exact ⟨59 - i, by omega, _, i + 1, F', T', rfl, by simp [get_put, s.s0], by simp [get_put, s.s1], by simp [get_put, s.s7], by simp [get_put, s.s40], by simp [get_put, s.s41], by simp [get_put], by omega, w16⟩
                      | none =>
                        have hml := gd.more hg0 hc0 hw0 hw2 hth
                        have hml' : ((T'.length : Int) = ((T.length + 1 : Nat) : Int)) = True := eq_true (by omega)
                        simp (maxSteps := 2000000) only [B0, B1, B2, B3, B4, B5, B6, B7, Gd, extV, Nat.reduceLT, Nat.reduceEqDiff, Nat.reduceBEq, Nat.reduceAdd, Nat.reduceSub, Nat.reduceMul, ↓reduceIte, reduceCtorEq, if_true, if_false, ite_true, ite_false, Int.reduceLT, Int.reduceLE, ptr, callV_func Try.enters_36, Try.len_60, Try.ia_60, Try.ld_65, allocV_zero Try.zero_65, Try.st_65, callV_func Try.enters_37, Try.fa_65_1, Try.ld_9, callV_func Try.enters_38, allocV_zero Try.zero_69, Try.st_69, Try.fa_65_0, Try.ld_3, Try.fa_65_2, Try.fa_65_3, Try.ld_2, callV_func Try.enters_39, callV_func Try.enters_40, callV_func Try.enters_41, callV_func Try.enters_42, Try.len_66, callV_func Try.enters_43, Try.ia_66, Try.fa_69_0, Try.ld_69, Try.fa_69_3, Try.ld_4, callV_func Try.enters_44, Try.fa_69_2, callV_func Try.enters_45, c7',  c0',  hg0',  hw0',  hw2',  hth,  Option.isSome_none,  hml', hrem,  hconv,  Int.reduceEq,  s.s0,  s.s1,  s.s7,  s.s40,  s.s41,  s.s42,  s.s10,  s.s11,  s.s12,  s.s13,  s.s14,  s.s15,  s.s16,  KInv_normal,  hwi,  t138,  t139,  t140,  hj',  d0,  e0',  hwT, rs_tmp (show Try.f7.results = #[.tmp 6] from rfl)]
                        exact ⟨59 - i, by omega, _, i + 1, F', T', rfl, by simp [get_put, s.s0], by simp [get_put, s.s1], by simp [get_put, s.s7], by simp [get_put, s.s40], by simp [get_put, s.s41], by simp [get_put], by omega, w16⟩
                    · have hw2' : (w ≤ 2) = False := eq_false hw2
                      simp (maxSteps := 2000000) only [B0, B1, B2, B3, B4, B5, B6, B7, Gd, extV, Nat.reduceLT, Nat.reduceEqDiff, Nat.reduceBEq, Nat.reduceAdd, Nat.reduceSub, Nat.reduceMul, ↓reduceIte, reduceCtorEq, if_true, if_false, ite_true, ite_false, Int.reduceLT, Int.reduceLE, ptr, callV_func Try.enters_36, Try.len_60, Try.ia_60, Try.ld_65, allocV_zero Try.zero_65, Try.st_65, callV_func Try.enters_37, Try.fa_65_1, Try.ld_9, callV_func Try.enters_38, allocV_zero Try.zero_69, Try.st_69, Try.fa_65_0, Try.ld_3, Try.fa_65_2, Try.fa_65_3, Try.ld_2, callV_func Try.enters_39, callV_func Try.enters_40, callV_func Try.enters_41, callV_func Try.enters_42, Try.len_66, callV_func Try.enters_43, Try.ia_66, Try.fa_69_0, Try.ld_69, Try.fa_69_3, Try.ld_4, callV_func Try.enters_44, Try.fa_69_2, callV_func Try.enters_45, c7',  c0',  hg0',  hw0',  hw2', hrem,  hconv,  Int.reduceEq,  s.s0,  s.s1,  s.s7,  s.s40,  s.s41,  s.s42,  s.s10,  s.s11,  s.s12,  s.s13,  s.s14,  s.s15,  s.s16,  KInv_normal,  hwi,  t138,  t139,  t140,  hj',  d0,  e0',  hwT, rs_tmp (show Try.f7.results = #[.tmp 6] from rfl)]
                      exact ⟨59 - i, by omega, _, i + 1, F', T', rfl, by simp [get_put, s.s0], by simp [get_put, s.s1], by simp [get_put, s.s7], by simp [get_put, s.s40], by simp [get_put, s.s41], by simp [get_put], by omega, w16⟩
                  · have hw0' : (0 ≤ w) = False := eq_false hw0
                    simp (maxSteps := 2000000) only [B0, B1, B2, B3, B4, B5, B6, B7, Gd, extV, Nat.reduceLT, Nat.reduceEqDiff, Nat.reduceBEq, Nat.reduceAdd, Nat.reduceSub, Nat.reduceMul, ↓reduceIte, reduceCtorEq, if_true, if_false, ite_true, ite_false, Int.reduceLT, Int.reduceLE, ptr, callV_func Try.enters_36, Try.len_60, Try.ia_60, Try.ld_65, allocV_zero Try.zero_65, Try.st_65, callV_func Try.enters_37, Try.fa_65_1, Try.ld_9, callV_func Try.enters_38, allocV_zero Try.zero_69, Try.st_69, Try.fa_65_0, Try.ld_3, Try.fa_65_2, Try.fa_65_3, Try.ld_2, callV_func Try.enters_39, callV_func Try.enters_40, callV_func Try.enters_41, callV_func Try.enters_42, Try.len_66, callV_func Try.enters_43, Try.ia_66, Try.fa_69_0, Try.ld_69, Try.fa_69_3, Try.ld_4, callV_func Try.enters_44, Try.fa_69_2, callV_func Try.enters_45, c7',  c0',  hg0',  hw0', hrem,  hconv,  Int.reduceEq,  s.s0,  s.s1,  s.s7,  s.s40,  s.s41,  s.s42,  s.s10,  s.s11,  s.s12,  s.s13,  s.s14,  s.s15,  s.s16,  KInv_normal,  hwi,  t138,  t139,  t140,  hj',  d0,  e0',  hwT, rs_tmp (show Try.f7.results = #[.tmp 6] from rfl)]
                    exact ⟨59 - i, by omega, _, i + 1, F', T', rfl, by simp [get_put, s.s0], by simp [get_put, s.s1], by simp [get_put, s.s7], by simp [get_put, s.s40], by simp [get_put, s.s41], by simp [get_put], by omega, w16⟩
                · have c0' : (c = 0) = False := eq_false hc0
                  simp (maxSteps := 2000000) only [B0, B1, B2, B3, B4, B5, B6, B7, Gd, extV, Nat.reduceLT, Nat.reduceEqDiff, Nat.reduceBEq, Nat.reduceAdd, Nat.reduceSub, Nat.reduceMul, ↓reduceIte, reduceCtorEq, if_true, if_false, ite_true, ite_false, Int.reduceLT, Int.reduceLE, ptr, callV_func Try.enters_36, Try.len_60, Try.ia_60, Try.ld_65, allocV_zero Try.zero_65, Try.st_65, callV_func Try.enters_37, Try.fa_65_1, Try.ld_9, callV_func Try.enters_38, allocV_zero Try.zero_69, Try.st_69, Try.fa_65_0, Try.ld_3, Try.fa_65_2, Try.fa_65_3, Try.ld_2, callV_func Try.enters_39, callV_func Try.enters_40, callV_func Try.enters_41, callV_func Try.enters_42, Try.len_66, callV_func Try.enters_43, Try.ia_66, Try.fa_69_0, Try.ld_69, Try.fa_69_3, Try.ld_4, callV_func Try.enters_44, Try.fa_69_2, callV_func Try.enters_45, c7',  c0',  hg0', hrem,  hconv,  Int.reduceEq,  s.s0,  s.s1,  s.s7,  s.s40,  s.s41,  s.s42,  s.s10,  s.s11,  s.s12,  s.s13,  s.s14,  s.s15,  s.s16,  KInv_normal,  hwi,  t138,  t139,  t140,  hj',  d0,  e0',  hwT, rs_tmp (show Try.f7.results = #[.tmp 6] from rfl)]
                  exact ⟨59 - i, by omega, _, i + 1, F', T', rfl, by simp [get_put, s.s0], by simp [get_put, s.s1], by simp [get_put, s.s7], by simp [get_put, s.s40], by simp [get_put, s.s41], by simp [get_put], by omega, w16⟩
              · have hg0' : (g.1 = ⟨#[]⟩) = False := eq_false hg0
                obtain ⟨q1, q2, q3, q4, q5, q6, q7⟩ := gd.gone hg0
                have d3 : ld σ16 σ9.next 3 = some (.bool false) := by rw [← q3]; exact g16.v.ld rfl
                have z0 : ld σ16 σ7.next 0 = some (.string ⟨#[]⟩) := by have := z16.v.ld (o := 0) rfl; rw [q5] at this; exact this
                have hlr : ((T.length : Int) = (room : Int)) = True := eq_true (by omega)
                simp (maxSteps := 2000000) only [B0, B1, B2, B3, B4, B5, B6, B7, Gd, extV, Nat.reduceLT, Nat.reduceEqDiff, Nat.reduceBEq, Nat.reduceAdd, Nat.reduceSub, Nat.reduceMul, ↓reduceIte, reduceCtorEq, if_true, if_false, ite_true, ite_false, Int.reduceLT, Int.reduceLE, ptr, callV_func Try.enters_36, Try.len_60, Try.ia_60, Try.ld_65, allocV_zero Try.zero_65, Try.st_65, callV_func Try.enters_37, Try.fa_65_1, Try.ld_9, callV_func Try.enters_38, allocV_zero Try.zero_69, Try.st_69, Try.fa_65_0, Try.ld_3, Try.fa_65_2, Try.fa_65_3, Try.ld_2, callV_func Try.enters_39, callV_func Try.enters_40, callV_func Try.enters_41, callV_func Try.enters_42, Try.len_66, callV_func Try.enters_43, Try.ia_66, Try.fa_69_0, Try.ld_69, Try.fa_69_3, Try.ld_4, callV_func Try.enters_44, Try.fa_69_2, callV_func Try.enters_45, c7',  hg0', hrem,  hconv,  Int.reduceEq,  s.s0,  s.s1,  s.s7,  s.s40,  s.s41,  s.s42,  s.s10,  s.s11,  s.s12,  s.s13,  s.s14,  s.s15,  s.s16,  KInv_normal,  hwi,  t138,  t139,  t140,  hj',  d0,  e0',  hwT, rs_tmp (show Try.f7.results = #[.tmp 6] from rfl)]
                refine get_run f.toFreeT w16.h g.1 fun σ17 hS17 => ?_
                rw [q1]
                have w17 := w16.step hS17
                obtain ⟨σ18, σ19, e18, t19', w19, v19, hS19⟩ := w17.var 69 (encE zE) (encE zE) rfl (encEOk.single _)
                have hS1619 : Same σ16 σ19 [] := hS17.trans hS19 nofun
                have g19 := g16.step hS1619
                have z19 : ld σ19 σ7.next 0 = some (.string ⟨#[]⟩) := by have := (z16.step hS1619).v.ld (o := 0) rfl; rw [q5] at this; exact this
                have f3 : ld σ19 σ9.next 3 = some (.bool false) := by rw [← q3]; exact g19.v.ld rfl
                have fl : ldCells σ19 σ9.next 0 4 = some (encE g) := g19.v.ldCells
                have hcv : ∀ {Q' : Value × AHeap → Prop}, (∀ σ' b, Same σ19 σ' [] → (b = true ↔ g ∈ T) → Q' (.bool b, σ')) → W (acall Try.prog gs orc (n + 14) 44 [.slice ab T.length cb, .agg #[.string g.1, .int .i64 g.2.1, .int .i64 g.2.2.1, .bool g.2.2.2]] σ19) Q' := fun hq => contains_run (n := n + 12) f.h44 f.h121 g ((hvb16.same hS1619 nofun).toR encEOk) (by omega) (by omega) hq
                simp only [encE] at e18 t19' fl
                subst q4
                simp (maxSteps := 2000000) only [B0, B1, B2, B3, B4, B5, B6, B7, Gd, extV, Nat.reduceLT, Nat.reduceEqDiff, Nat.reduceBEq, Nat.reduceAdd, Nat.reduceSub, Nat.reduceMul, ↓reduceIte, reduceCtorEq, if_true, if_false, ite_true, ite_false, Int.reduceLT, Int.reduceLE, ptr, callV_func Try.enters_36, Try.len_60, Try.ia_60, Try.ld_65, allocV_zero Try.zero_65, Try.st_65, callV_func Try.enters_37, Try.fa_65_1, Try.ld_9, callV_func Try.enters_38, allocV_zero Try.zero_69, Try.st_69, Try.fa_65_0, Try.ld_3, Try.fa_65_2, Try.fa_65_3, Try.ld_2, callV_func Try.enters_39, callV_func Try.enters_40, callV_func Try.enters_41, callV_func Try.enters_42, Try.len_66, callV_func Try.enters_43, Try.ia_66, Try.fa_69_0, Try.ld_69, Try.fa_69_3, Try.ld_4, callV_func Try.enters_44, Try.fa_69_2, callV_func Try.enters_45, enV,  Option.getD_none,  Option.isSome_none,  Value.cells,  e18,  t19',  List.size_toArray,  f3,  fl,  z19,  q5, hrem,  hconv,  Int.reduceEq,  s.s0,  s.s1,  s.s7,  s.s40,  s.s41,  s.s42,  s.s10,  s.s11,  s.s12,  s.s13,  s.s14,  s.s15,  s.s16,  KInv_normal,  hwi,  t138,  t139,  t140,  hj',  d0,  e0',  hwT, rs_tmp (show Try.f7.results = #[.tmp 6] from rfl)]
                refine hcv fun σ20 b hS20 hb => ?_
                have hbt := hb.2 q2
                subst hbt
                have w20 := w19.step hS20
                have g20 := g19.step hS20
                have hvb20 := (hvb16.same hS1619 nofun).same hS20 nofun
                simp (maxSteps := 2000000) only [B0, B1, B2, B3, B4, B5, B6, B7, Gd, extV, Nat.reduceLT, Nat.reduceEqDiff, Nat.reduceBEq, Nat.reduceAdd, Nat.reduceSub, Nat.reduceMul, ↓reduceIte, reduceCtorEq, if_true, if_false, ite_true, ite_false, Int.reduceLT, Int.reduceLE, ptr, callV_func Try.enters_36, Try.len_60, Try.ia_60, Try.ld_65, allocV_zero Try.zero_65, Try.st_65, callV_func Try.enters_37, Try.fa_65_1, Try.ld_9, callV_func Try.enters_38, allocV_zero Try.zero_69, Try.st_69, Try.fa_65_0, Try.ld_3, Try.fa_65_2, Try.fa_65_3, Try.ld_2, callV_func Try.enters_39, callV_func Try.enters_40, callV_func Try.enters_41, callV_func Try.enters_42, Try.len_66, callV_func Try.enters_43, Try.ia_66, Try.fa_69_0, Try.ld_69, Try.fa_69_3, Try.ld_4, callV_func Try.enters_44, Try.fa_69_2, callV_func Try.enters_45, hlr,  q5,  Option.isSome_none, hrem,  hconv,  Int.reduceEq,  s.s0,  s.s1,  s.s7,  s.s40,  s.s41,  s.s42,  s.s10,  s.s11,  s.s12,  s.s13,  s.s14,  s.s15,  s.s16,  KInv_normal,  hwi,  t138,  t139,  t140,  hj',  d0,  e0',  hwT, rs_tmp (show Try.f7.results = #[.tmp 6] from rfl)]
                refine W_inv (fun m fr σ' => ∃ (t : Tr Value) (j : Nat), fr = ⟨308, t⟩ ∧ Sl t r false p (.slice (some ⟨bb, o, none⟩) cl.length c0) cl.length i σ3.next (.slice ab T.length cb) σ7.next (getE ky T).isSome c σ9.next (.slice aa T'.length ca) ∧ t.get 275 = some (.slice ab T.length cb) ∧ t.get 276 = some (.int .i64 (T.length : Int)) ∧ t.get 277 = some (.int .i64 (j : Int)) ∧ m + j = T.length ∧ Same σ20 σ' []) T.length (by omega)
                  ⟨_, 0, rfl, by constructor <;> simp [get_put, s.s0, s.s1, s.s7, s.s40, s.s41, s.s42, s.s10, s.s11, s.s12, s.s13, s.s14, s.s15, s.s16], by simp [get_put, s.s11], by simp [get_put], by simp [get_put], rfl, .refl _ _⟩ ?_
                rintro m fr σ21 ⟨t, j, rfl, s, t275, t276, t277, hm, hS21⟩
                by_cases hj : j < T.length
                · have hx := List.getElem?_eq_getElem hj
                  have hxm := List.getElem_mem hj
                  generalize T[j] = x at hx hxm
                  obtain ⟨b2, o2, cap2, g2, e, hb2, hbl2, hr2⟩ := (hvb20.same hS21 nofun).at_ hx
                  injection e with e _ e3
                  subst e e3
                  have hld := hr2.ldCells encEOk hx
                  obtain ⟨σ22, σ23, e22, t23', hS23, v23, hn23, _⟩ := AE.newVar σ21 69 (encE zE) (encE x) rfl (encEOk.single x)
                  have hS2023 := hS21.trans hS23 nofun
                  have g23 := g20.step hS2023
                  have a0 : ld σ23 σ21.next 0 = some (.string x.1) := v23.ld rfl
                  have a2 : ld σ23 σ21.next 2 = some (.int .i64 x.2.2.1) := v23.ld rfl
                  have a3 : ld σ23 σ21.next 3 = some (.bool x.2.2.2) := v23.ld rfl
                  have k0 : ld σ23 σ9.next 0 = some (.string g.1) := g23.v.ld rfl
                  have k2 : ld σ23 σ9.next 2 = some (.int .i64 g.2.2.1) := g23.v.ld rfl
                  simp only [encE] at hld e22 t23'
                  have hj' : (j : Int) < (T.length : Int) := by omega
                  have hw1 : IntKind.i64.wrap ((j : Int) + 1) = ((j + 1 : Nat) : Int) := wrap64 (by omega) (by omega)
                  cases hst : x.2.2.2 with
                  | true =>
                    rw [hst] at a3 hld t23'
                    simp (maxSteps := 2000000) only [B0, B1, B2, B3, B4, B5, B6, B7, Gd, extV, Nat.reduceLT, Nat.reduceEqDiff, Nat.reduceBEq, Nat.reduceAdd, Nat.reduceSub, Nat.reduceMul, ↓reduceIte, reduceCtorEq, if_true, if_false, ite_true, ite_false, Int.reduceLT, Int.reduceLE, ptr, callV_func Try.enters_36, Try.len_60, Try.ia_60, Try.ld_65, allocV_zero Try.zero_65, Try.st_65, callV_func Try.enters_37, Try.fa_65_1, Try.ld_9, callV_func Try.enters_38, allocV_zero Try.zero_69, Try.st_69, Try.fa_65_0, Try.ld_3, Try.fa_65_2, Try.fa_65_3, Try.ld_2, callV_func Try.enters_39, callV_func Try.enters_40, callV_func Try.enters_41, callV_func Try.enters_42, Try.len_66, callV_func Try.enters_43, Try.ia_66, Try.fa_69_0, Try.ld_69, Try.fa_69_3, Try.ld_4, callV_func Try.enters_44, Try.fa_69_2, callV_func Try.enters_45, hj',  hj,  hld,  e22,  t23',  Value.cells,  List.size_toArray,  a0,  a2,  a3,  k0,  k2,  hw1, hrem,  hconv,  Int.reduceEq,  s.s0,  s.s1,  s.s7,  s.s40,  s.s41,  s.s42,  s.s10,  s.s11,  s.s12,  s.s13,  s.s14,  s.s15,  s.s16,  KInv_normal,  hwi,  t275,  t276,  t277, rs_tmp (show Try.f7.results = #[.tmp 6] from rfl)]
                    exact ⟨T.length - (j + 1), by omega, _, j + 1, rfl, by constructor <;> simp [get_put, s.s0, s.s1, s.s7, s.s40, s.s41, s.s42, s.s10, s.s11, s.s12, s.s13, s.s14, s.s15, s.s16], by simp [get_put, t275], by simp [get_put, t276], by simp [get_put], by omega, hS2023⟩
                  | false =>
                    rw [hst] at a3 hld t23'
                    have hq := q7 x hxm hst
                    have hq1 : (x.2.2.1 < g.2.2.1) = False := eq_false fun q => hq (.inl q)
                    by_cases hq2 : x.2.2.1 = g.2.2.1
                    · have hq2' : (x.2.2.1 = g.2.2.1) = True := eq_true hq2
                      have hq3 : sLt x.1 g.1 = false := by cases hs : sLt x.1 g.1 with | false => rfl | true => exact absurd (.inr ⟨hq2, hs⟩) hq
                      simp (maxSteps := 2000000) only [B0, B1, B2, B3, B4, B5, B6, B7, Gd, extV, Nat.reduceLT, Nat.reduceEqDiff, Nat.reduceBEq, Nat.reduceAdd, Nat.reduceSub, Nat.reduceMul, ↓reduceIte, reduceCtorEq, if_true, if_false, ite_true, ite_false, Int.reduceLT, Int.reduceLE, ptr, callV_func Try.enters_36, Try.len_60, Try.ia_60, Try.ld_65, allocV_zero Try.zero_65, Try.st_65, callV_func Try.enters_37, Try.fa_65_1, Try.ld_9, callV_func Try.enters_38, allocV_zero Try.zero_69, Try.st_69, Try.fa_65_0, Try.ld_3, Try.fa_65_2, Try.fa_65_3, Try.ld_2, callV_func Try.enters_39, callV_func Try.enters_40, callV_func Try.enters_41, callV_func Try.enters_42, Try.len_66, callV_func Try.enters_43, Try.ia_66, Try.fa_69_0, Try.ld_69, Try.fa_69_3, Try.ld_4, callV_func Try.enters_44, Try.fa_69_2, callV_func Try.enters_45, hj',  hj,  hld,  e22,  t23',  Value.cells,  List.size_toArray,  a0,  a2,  a3,  k0,  k2,  hw1,  hq1,  hq2',  hq3, hrem,  hconv,  Int.reduceEq,  s.s0,  s.s1,  s.s7,  s.s40,  s.s41,  s.s42,  s.s10,  s.s11,  s.s12,  s.s13,  s.s14,  s.s15,  s.s16,  KInv_normal,  hwi,  t275,  t276,  t277, rs_tmp (show Try.f7.results = #[.tmp 6] from rfl)]
                      exact ⟨T.length - (j + 1), by omega, _, j + 1, rfl, by constructor <;> simp [get_put, s.s0, s.s1, s.s7, s.s40, s.s41, s.s42, s.s10, s.s11, s.s12, s.s13, s.s14, s.s15, s.s16], by simp [get_put, t275], by simp [get_put, t276], by simp [get_put], by omega, hS2023⟩
                    · have hq2' : (x.2.2.1 = g.2.2.1) = False := eq_false hq2
                      simp (maxSteps := 2000000) only [B0, B1, B2, B3, B4, B5, B6, B7, Gd, extV, Nat.reduceLT, Nat.reduceEqDiff, Nat.reduceBEq, Nat.reduceAdd, Nat.reduceSub, Nat.reduceMul, ↓reduceIte, reduceCtorEq, if_true, if_false, ite_true, ite_false, Int.reduceLT, Int.reduceLE, ptr, callV_func Try.enters_36, Try.len_60, Try.ia_60, Try.ld_65, allocV_zero Try.zero_65, Try.st_65, callV_func Try.enters_37, Try.fa_65_1, Try.ld_9, callV_func Try.enters_38, allocV_zero Try.zero_69, Try.st_69, Try.fa_65_0, Try.ld_3, Try.fa_65_2, Try.fa_65_3, Try.ld_2, callV_func Try.enters_39, callV_func Try.enters_40, callV_func Try.enters_41, callV_func Try.enters_42, Try.len_66, callV_func Try.enters_43, Try.ia_66, Try.fa_69_0, Try.ld_69, Try.fa_69_3, Try.ld_4, callV_func Try.enters_44, Try.fa_69_2, callV_func Try.enters_45, hj',  hj,  hld,  e22,  t23',  Value.cells,  List.size_toArray,  a0,  a2,  a3,  k0,  k2,  hw1,  hq1,  hq2', hrem,  hconv,  Int.reduceEq,  s.s0,  s.s1,  s.s7,  s.s40,  s.s41,  s.s42,  s.s10,  s.s11,  s.s12,  s.s13,  s.s14,  s.s15,  s.s16,  KInv_normal,  hwi,  t275,  t276,  t277, rs_tmp (show Try.f7.results = #[.tmp 6] from rfl)]
                      exact ⟨T.length - (j + 1), by omega, _, j + 1, rfl, by constructor <;> simp [get_put, s.s0, s.s1, s.s7, s.s40, s.s41, s.s42, s.s10, s.s11, s.s12, s.s13, s.s14, s.s15, s.s16], by simp [get_put, t275], by simp [get_put, t276], by simp [get_put], by omega, hS2023⟩
                · have hj' : ((j : Int) < (T.length : Int)) = False := eq_false (by omega)
                  simp (maxSteps := 2000000) only [B0, B1, B2, B3, B4, B5, B6, B7, Gd, extV, Nat.reduceLT, Nat.reduceEqDiff, Nat.reduceBEq, Nat.reduceAdd, Nat.reduceSub, Nat.reduceMul, ↓reduceIte, reduceCtorEq, if_true, if_false, ite_true, ite_false, Int.reduceLT, Int.reduceLE, ptr, callV_func Try.enters_36, Try.len_60, Try.ia_60, Try.ld_65, allocV_zero Try.zero_65, Try.st_65, callV_func Try.enters_37, Try.fa_65_1, Try.ld_9, callV_func Try.enters_38, allocV_zero Try.zero_69, Try.st_69, Try.fa_65_0, Try.ld_3, Try.fa_65_2, Try.fa_65_3, Try.ld_2, callV_func Try.enters_39, callV_func Try.enters_40, callV_func Try.enters_41, callV_func Try.enters_42, Try.len_66, callV_func Try.enters_43, Try.ia_66, Try.fa_69_0, Try.ld_69, Try.fa_69_3, Try.ld_4, callV_func Try.enters_44, Try.fa_69_2, callV_func Try.enters_45, hj', hrem,  hconv,  Int.reduceEq,  s.s0,  s.s1,  s.s7,  s.s40,  s.s41,  s.s42,  s.s10,  s.s11,  s.s12,  s.s13,  s.s14,  s.s15,  s.s16,  KInv_normal,  hwi,  t275,  t276,  t277, rs_tmp (show Try.f7.results = #[.tmp 6] from rfl)]
                  exact ⟨59 - i, by omega, _, i + 1, F', T', rfl, by simp [get_put, s.s0], by simp [get_put, s.s1], by simp [get_put, s.s7], by simp [get_put, s.s40], by simp [get_put, s.s41], by simp [get_put], by omega, w20.step hS21⟩
  · have hlt' : ((i : Int) < (cl.length : Int)) = False := eq_false (by omega)
    simp (maxSteps := 2000000) only [B0, B1, B2, B3, B4, B5, B6, B7, Gd, extV, Nat.reduceLT, Nat.reduceEqDiff, Nat.reduceBEq, Nat.reduceAdd, Nat.reduceSub, Nat.reduceMul, ↓reduceIte, reduceCtorEq, if_true, if_false, ite_true, ite_false, Int.reduceLT, Int.reduceLE, ptr, callV_func Try.enters_36, Try.len_60, Try.ia_60, Try.ld_65, allocV_zero Try.zero_65, Try.st_65, callV_func Try.enters_37, Try.fa_65_1, Try.ld_9, callV_func Try.enters_38, allocV_zero Try.zero_69, Try.st_69, Try.fa_65_0, Try.ld_3, Try.fa_65_2, Try.fa_65_3, Try.ld_2, callV_func Try.enters_39, callV_func Try.enters_40, callV_func Try.enters_41, callV_func Try.enters_42, Try.len_66, callV_func Try.enters_43, Try.ia_66, Try.fa_69_0, Try.ld_69, Try.fa_69_3, Try.ld_4, callV_func Try.enters_44, Try.fa_69_2, callV_func Try.enters_45, t0,  t1,  t7,  t40,  t41,  t42,  hlt', rs_tmp (show Try.f7.results = #[.tmp 6] from rfl)]
    refine wakes_run f.toFreeU f.h45 (by omega) fun σ18 hS18 => ?_
    simp (maxSteps := 2000000) only [B0, B1, B2, B3, B4, B5, B6, B7, Gd, extV, Nat.reduceLT, Nat.reduceEqDiff, Nat.reduceBEq, Nat.reduceAdd, Nat.reduceSub, Nat.reduceMul, ↓reduceIte, reduceCtorEq, if_true, if_false, ite_true, ite_false, Int.reduceLT, Int.reduceLE, ptr, callV_func Try.enters_36, Try.len_60, Try.ia_60, Try.ld_65, allocV_zero Try.zero_65, Try.st_65, callV_func Try.enters_37, Try.fa_65_1, Try.ld_9, callV_func Try.enters_38, allocV_zero Try.zero_69, Try.st_69, Try.fa_65_0, Try.ld_3, Try.fa_65_2, Try.fa_65_3, Try.ld_2, callV_func Try.enters_39, callV_func Try.enters_40, callV_func Try.enters_41, callV_func Try.enters_42, Try.len_66, callV_func Try.enters_43, Try.ia_66, Try.fa_69_0, Try.ld_69, Try.fa_69_3, Try.ld_4, callV_func Try.enters_44, Try.fa_69_2, callV_func Try.enters_45, rs_tmp (show Try.f7.results = #[.tmp 6] from rfl)]
    exact hQ σ18 (w3.same.trans hS18 nofun)
end Go.Proofs.Ytongccpmdndcgaa.Tab
end
/- The law on a table's bounds. -/
section
set_option linter.all false
namespace Go.Proofs.Ytongccpmdndcgaa.Tab
open Go Go.AE Go.Proofs.Ytongccpmdndcgaa.Alm Go.Sort Go.Proofs Go.RowKit Go.ChangeShapes
theorem u8_wf {n : Int} (h : (Lit.int .u8 n).wf = true) : 0 ≤ n := by
  simp [Lit.wf, IntKind.min, IntKind.max, IntKind.bits, IntKind.signed] at h
  omega
theorem bounds_law {H : Type} {enc : TypeId × Value → H} {w : World} {held : Bool} {a : Option Addr} {len cap : Nat} {d : DataW H} {ps : List MemPlace} (h : DataW.Trod enc Try.prog w 0 (fun _ => true) held 60 (.slice a len cap) d ps) {r : Int} (hr : 0 ≤ r) (ref : Bool) :
    Calls Try.prog 7 #[.int .u8 r, .bool ref, .slice a len cap] w fun e w' => e = .returned (.bool true) ∧ Below w.heap.size w w' := by
  obtain ⟨σ, ρ, v, L, hR, hv, hs, hro⟩ := slice_arg encActOk encAct_atom Try.underlying60 c65 decAct h
  exact open_true (by kernel_rfl) told13 hR hro (.cons (.atom rfl) (.cons (.atom rfl) (.cons hv .nil))) (bounds_run free13 hr hs (n := 1200) (by omega) fun _ _ => rfl)
end Go.Proofs.Ytongccpmdndcgaa.Tab
end
