import Derived.Test.YtjdpoliamcnkbaaDoorIcmpGetN
import Derived.Test.YtjdpoliamcnkbaaDoorSumLaw
import Derived.BigRegion
import Derived.StillTailTactics
namespace Go.Proofs.YtjdpoliamcnkbaaDoor.T
open Go.BigFrame Go.RowKit Go.Maps Go.Proofs.YtjdpoliamcnkbaaDoorW.PrintWords
set_option linter.unusedVariables false
set_option linter.unusedSimpArgs false
set_option maxRecDepth 1000000

/-- The region of number n in a code. -/
def regionOf21 (n : Nat) : Code → Option Code
  | .region id ops b => if id = n then some (.region id ops b) else none
  | .seq a b => (regionOf21 n a).orElse fun _ => regionOf21 n b
  | .block _ c => regionOf21 n c
  | .scope c => regionOf21 n c
  | .loop c => regionOf21 n c
  | .cond _ a b => (regionOf21 n a).orElse fun _ => regionOf21 n b
  | _ => none
noncomputable def code21 : Code := ((Tryd.f5.body.bind (regionOf21 21)).getD .skip)

theorem still_skip {P : Program} {ops : Array Oper} {w : World} {Q : Act → Prop} {o : Oper} {rest : List Oper} {a : Act} (hw : Region.wanted o (yielded ops a.tmps) = false) (h : wpStill P ops w Q rest (a.put o.dst undef)) : wpStill P ops w Q (o :: rest) a := by
  show (if Region.wanted o (yielded ops a.tmps) then _ else _)
  rw [hw]
  exact h
/-- An operation that its guard leaves out, the goal kept behind a letter. -/
theorem skip_next {P : Program} {ops : Array Oper} {w : World} {Q K : Act → Prop} {o : Oper} {rest : List Oper} {a : Act} (hK : ∀ a, wpStill P ops w Q (o :: rest) a → K a)
    (hw : Region.wanted o (yielded ops a.tmps) = false) (h : ∀ K' : Act → Prop, (∀ b, wpStill P ops w Q rest b → K' b) → K' (a.put o.dst undef)) : K a :=
  hK a (still_skip hw (h _ fun _ h => h))
/-- An operation that is carried out, the goal kept behind a letter. -/
theorem step_next {P : Program} {ops : Array Oper} {w : World} {Q K : Act → Prop} {o : Oper} {rest : List Oper} {a : Act} (hK : ∀ a, wpStill P ops w Q (o :: rest) a → K a)
    (h : ∀ K' : Act → Prop, (∀ b, wpStill P ops w Q rest b → K' b) → if Region.wanted o (yielded ops a.tmps) then o.still P a w K' else K' (a.put o.dst undef)) : K a :=
  hK a (wpStill_step h)

set_option maxHeartbeats 4000000 in
theorem reg21 {u0 u1 u2 u4 u5 u6 u7 u8 u9 u10 u11 u12 u13 u14 u15 u16 u17 u18 u19 u20 u24 u25 u26 u27 u28 u29 u30 u31 u32 u33 u34 u35 u36 u37 u38 u39 u40 u41 u42 u43 u44 u45 u46 u47 u48 u49 u50 u51 u52 u53 u54 u55 u56 u57 u58 u59 u60 u61 u62 u63 u64 u65 u66 u67 u68 u69 u70 u71 u72 u73 u74 u75 u76 u77 u78 u79 u80 u81 u82 u83 u84 u85 u86 u87 u88 u89 u90 u91 u92 u93 u94 u95 u96 u97 u98 u99 u100 u101 u102 u103 u104 u105 u106 u107 u108 u109 u110 u111 u112 u113 u114 u115 u116 u117 u118 u119 u120 u121 u122 u123 u124 u125 u126 u127 u128 u129 u130 u131 u132 u133 u134 u135 u136 u137 u138 u139 u140 u141 u142 u143 u144 u145 u146 u147 u148 u149 u150 u151 u152 u153 u154 u155 u156 u157 u158 u159 u160 u161 u162 u163 u164 u165 u166 u167 u168 u169 u170 u171 u172 u173 u174 u175 u176 u177 u178 u179 u180 u181 u182 u183 u184 u185 u186 u187 u188 u189 u190 u191 u192 u193 u194 u195 u196 u197 u198 u199 u200 u201 u202 u203 u204 u205 u206 u207 u208 u209 u210 u211 u212 u213 u214 u215 u216 u217 u218 u219 u220 u221 u222 u223 u224 u225 u226 u227 u228 u229 u230 u231 u232 u233 u234 u235 u236 u237 u238 u239 u240 u241 u242 u243 u244 u245 u246 u247 u248 u249 u250 u251 u252 u253 u254 u255 u256 u257 : Value} (ab ao g k c4 ck : Nat) (sa sb sx sy : ByteArray) (W : World) (Q : Exit → Act → World → Prop)
    (hc4 : 8 + k ≤ c4) (hck : k + 8 ≤ ck)
    (k1 : (convert 23 9 (.slice (some ⟨g, 0, none⟩) 2 c4)).run Tryd.prog W.drew = .ok (.string sa) W.drew)
    (k2 : (convert 23 9 (.slice (some ⟨g, 2, none⟩) 2 (c4 - 2))).run Tryd.prog W.drew = .ok (.string sx) W.drew)
    (k3 : (convert 23 9 (.slice (some ⟨g, 4, none⟩) (8 + k - 4) (c4 - 4))).run Tryd.prog W.drew = .ok (.string sb) W.drew)
    (l1 : (convert 23 9 (.slice (some ⟨ab, ao, none⟩) 2 ck)).run Tryd.prog W.drew = .ok (.string sa) W.drew)
    (l3 : (convert 23 9 (.slice (some ⟨ab, ao + 4, none⟩) (k + 8 - 4) (ck - 4))).run Tryd.prog W.drew = .ok (.string sb) W.drew)
    (hT : Calls Tryd.prog 11 #[] W.drew fun e w' => e = .returned (.bool true) ∧ Bel W.drew w')
    (hs : sx = sy ∨ (¬ sx = sy ∧ sy = ⟨#[255, 255]⟩ ∧ sx = ⟨#[0, 0]⟩))
    (hQ : ∀ (x211 x212 x213 x214 x215 x216 x217 x218 x219 x220 x221 x222 x223 x224 x225 x226 x227 x228 x229 x230 x231 x232 x233 x234 x235 x236 x237 x238 x239 x240 x241 x242 x243 x244 x245 x246 x247 x248 x249 x250 x251 x252 x253 x254 x255 x256 x257 : Value) (w' : World), Bel W w' → Q .normal ⟨List.toArray (u0 :: u1 :: u2 :: Value.slice (some ⟨ab, ao, none⟩) (k + 8) ck :: u4 :: u5 :: u6 :: u7 :: Value.bool true :: u9 :: u10 :: u11 :: u12 :: u13 :: u14 :: u15 :: u16 :: u17 :: u18 :: u19 :: u20 :: Value.slice (some ⟨g, 0, none⟩) (8 + k) c4 :: Value.int .i64 0 :: Value.string sy :: u24 :: u25 :: u26 :: u27 :: u28 :: u29 :: u30 :: u31 :: u32 :: u33 :: u34 :: u35 :: u36 :: u37 :: u38 :: u39 :: u40 :: u41 :: u42 :: u43 :: u44 :: u45 :: u46 :: u47 :: u48 :: u49 :: u50 :: u51 :: u52 :: u53 :: u54 :: u55 :: u56 :: u57 :: u58 :: u59 :: u60 :: u61 :: u62 :: u63 :: u64 :: u65 :: u66 :: u67 :: u68 :: u69 :: u70 :: u71 :: u72 :: u73 :: u74 :: u75 :: u76 :: u77 :: u78 :: u79 :: u80 :: u81 :: u82 :: u83 :: u84 :: u85 :: u86 :: u87 :: u88 :: u89 :: u90 :: u91 :: u92 :: u93 :: u94 :: u95 :: u96 :: u97 :: u98 :: u99 :: u100 :: u101 :: u102 :: u103 :: u104 :: u105 :: u106 :: u107 :: u108 :: u109 :: u110 :: u111 :: u112 :: u113 :: u114 :: u115 :: u116 :: u117 :: u118 :: u119 :: u120 :: u121 :: u122 :: u123 :: u124 :: u125 :: u126 :: u127 :: u128 :: u129 :: u130 :: u131 :: u132 :: u133 :: u134 :: u135 :: u136 :: u137 :: u138 :: u139 :: u140 :: u141 :: u142 :: u143 :: u144 :: u145 :: u146 :: u147 :: u148 :: u149 :: u150 :: u151 :: u152 :: u153 :: u154 :: u155 :: u156 :: u157 :: u158 :: u159 :: u160 :: u161 :: u162 :: u163 :: u164 :: u165 :: u166 :: u167 :: u168 :: u169 :: u170 :: u171 :: u172 :: u173 :: u174 :: u175 :: u176 :: u177 :: u178 :: u179 :: u180 :: u181 :: u182 :: u183 :: u184 :: u185 :: u186 :: u187 :: u188 :: u189 :: u190 :: u191 :: u192 :: u193 :: u194 :: u195 :: u196 :: u197 :: u198 :: u199 :: u200 :: u201 :: u202 :: u203 :: u204 :: u205 :: u206 :: u207 :: u208 :: u209 :: u210 :: x211 :: x212 :: x213 :: x214 :: x215 :: x216 :: x217 :: x218 :: x219 :: x220 :: x221 :: x222 :: x223 :: x224 :: x225 :: x226 :: x227 :: x228 :: x229 :: x230 :: x231 :: x232 :: x233 :: x234 :: x235 :: x236 :: x237 :: x238 :: x239 :: x240 :: x241 :: x242 :: x243 :: x244 :: x245 :: x246 :: x247 :: x248 :: x249 :: x250 :: x251 :: x252 :: x253 :: x254 :: x255 :: x256 :: x257 :: []), []⟩ w') :
    Code.wp Tryd.prog code21 Q ⟨List.toArray (u0 :: u1 :: u2 :: Value.slice (some ⟨ab, ao, none⟩) (k + 8) ck :: u4 :: u5 :: u6 :: u7 :: u8 :: u9 :: u10 :: u11 :: u12 :: u13 :: u14 :: u15 :: u16 :: u17 :: u18 :: u19 :: u20 :: Value.slice (some ⟨g, 0, none⟩) (8 + k) c4 :: Value.int .i64 0 :: Value.string sy :: u24 :: u25 :: u26 :: u27 :: u28 :: u29 :: u30 :: u31 :: u32 :: u33 :: u34 :: u35 :: u36 :: u37 :: u38 :: u39 :: u40 :: u41 :: u42 :: u43 :: u44 :: u45 :: u46 :: u47 :: u48 :: u49 :: u50 :: u51 :: u52 :: u53 :: u54 :: u55 :: u56 :: u57 :: u58 :: u59 :: u60 :: u61 :: u62 :: u63 :: u64 :: u65 :: u66 :: u67 :: u68 :: u69 :: u70 :: u71 :: u72 :: u73 :: u74 :: u75 :: u76 :: u77 :: u78 :: u79 :: u80 :: u81 :: u82 :: u83 :: u84 :: u85 :: u86 :: u87 :: u88 :: u89 :: u90 :: u91 :: u92 :: u93 :: u94 :: u95 :: u96 :: u97 :: u98 :: u99 :: u100 :: u101 :: u102 :: u103 :: u104 :: u105 :: u106 :: u107 :: u108 :: u109 :: u110 :: u111 :: u112 :: u113 :: u114 :: u115 :: u116 :: u117 :: u118 :: u119 :: u120 :: u121 :: u122 :: u123 :: u124 :: u125 :: u126 :: u127 :: u128 :: u129 :: u130 :: u131 :: u132 :: u133 :: u134 :: u135 :: u136 :: u137 :: u138 :: u139 :: u140 :: u141 :: u142 :: u143 :: u144 :: u145 :: u146 :: u147 :: u148 :: u149 :: u150 :: u151 :: u152 :: u153 :: u154 :: u155 :: u156 :: u157 :: u158 :: u159 :: u160 :: u161 :: u162 :: u163 :: u164 :: u165 :: u166 :: u167 :: u168 :: u169 :: u170 :: u171 :: u172 :: u173 :: u174 :: u175 :: u176 :: u177 :: u178 :: u179 :: u180 :: u181 :: u182 :: u183 :: u184 :: u185 :: u186 :: u187 :: u188 :: u189 :: u190 :: u191 :: u192 :: u193 :: u194 :: u195 :: u196 :: u197 :: u198 :: u199 :: u200 :: u201 :: u202 :: u203 :: u204 :: u205 :: u206 :: u207 :: u208 :: u209 :: u210 :: u211 :: u212 :: u213 :: u214 :: u215 :: u216 :: u217 :: u218 :: u219 :: u220 :: u221 :: u222 :: u223 :: u224 :: u225 :: u226 :: u227 :: u228 :: u229 :: u230 :: u231 :: u232 :: u233 :: u234 :: u235 :: u236 :: u237 :: u238 :: u239 :: u240 :: u241 :: u242 :: u243 :: u244 :: u245 :: u246 :: u247 :: u248 :: u249 :: u250 :: u251 :: u252 :: u253 :: u254 :: u255 :: u256 :: u257 :: []), []⟩ W := by
  have HT := Aside0.mk hT
  have HQ := Aside0.mk hQ
  clear hQ hT
  conv => arg 2; whnf
  have hlen : ((8 : Int) + (k : Int) == (k : Int) + 8) = true := by simp; omega
  have q41 : (4 : Int) ≤ 8 + (k : Int) := by omega
  have q42 : (4 : Int) ≤ (k : Int) + 8 := by omega
  have c4' : (4 : Int) ≤ (c4 : Int) := by omega
  have c2' : (2 : Int) ≤ (c4 : Int) := by omega
  have n4' : ¬ c4 = 4 := by omega
  have n2' : ¬ c4 = 2 := by omega
  have p4' : (4 : Int) ≤ (ck : Int) := by omega
  have p2' : (2 : Int) ≤ (ck : Int) := by omega
  have o4' : ¬ ck = 4 := by omega
  have o2' : ¬ ck = 2 := by omega
  have l3' := l3
  rw [show k + 8 - 4 = k + 4 by omega] at l3'
  clear hc4 hck
  rcases hs with rfl | ⟨hne, rfl, rfl⟩
  · refine wp_region_still_tail 45 (by kernel_rfl) (by kernel_rfl) ?_
    simp only [List.take_succ_cons, List.take_zero, List.drop_succ_cons, List.drop_zero]
    iterate 33 still_step
    refine wpStill_step (fun K hK => ?_)
    go_simp
    refine skip_next hK (by kernel_rfl) ?_
    clear hK K
    intro K hK
    simp only [Act.put, List.setIfInBounds_toArray, List.set_cons_zero, List.set_cons_succ]
    refine skip_next hK (by kernel_rfl) ?_
    clear hK K
    intro K hK
    simp only [Act.put, List.setIfInBounds_toArray, List.set_cons_zero, List.set_cons_succ]
    refine skip_next hK (by kernel_rfl) ?_
    clear hK K
    intro K hK
    simp only [Act.put, List.setIfInBounds_toArray, List.set_cons_zero, List.set_cons_succ]
    refine skip_next hK (by kernel_rfl) ?_
    clear hK K
    intro K hK
    simp only [Act.put, List.setIfInBounds_toArray, List.set_cons_zero, List.set_cons_succ]
    refine skip_next hK (by kernel_rfl) ?_
    clear hK K
    intro K hK
    simp only [Act.put, List.setIfInBounds_toArray, List.set_cons_zero, List.set_cons_succ]
    refine skip_next hK (by kernel_rfl) ?_
    clear hK K
    intro K hK
    simp only [Act.put, List.setIfInBounds_toArray, List.set_cons_zero, List.set_cons_succ]
    refine skip_next hK (by kernel_rfl) ?_
    clear hK K
    intro K hK
    simp only [Act.put, List.setIfInBounds_toArray, List.set_cons_zero, List.set_cons_succ]
    refine skip_next hK (by kernel_rfl) ?_
    clear hK K
    intro K hK
    simp only [Act.put, List.setIfInBounds_toArray, List.set_cons_zero, List.set_cons_succ]
    refine step_next hK ?_
    clear hK K
    intro K hK
    go_simp
    refine step_next hK ?_
    clear hK K
    intro K hK
    go_simp
    refine step_next hK ?_
    clear hK K
    intro K hK
    go_simp
    refine hK _ (wpStill_nil ?_)
    clear hK K
    go_wp2_with (first
      | (go_at_call 11; (with_reducible refine HT.out.mono ?_); rintro e w7 ⟨rfl, hb7⟩))
    exact HQ.out _ _ _ _ _ _ _ _ _ _ _ _ _ _ _ _ _ _ _ _ _ _ _ _ _ _ _ _ _ _ _ _ _ _ _ _ _ _ _ _ _ _ _ _ _ _ _ w7 (((Bel.refl W).drew).trans hb7)
  · clear hne
    refine wp_region_still_tail 45 (by kernel_rfl) (by kernel_rfl) ?_
    simp only [List.take_succ_cons, List.take_zero, List.drop_succ_cons, List.drop_zero]
    iterate 44 still_step
    refine wpStill_step (fun K hK => ?_)
    go_simp
    refine hK _ (wpStill_nil ?_)
    clear hK K
    go_wp2_with (first
      | (go_at_call 11; (with_reducible refine HT.out.mono ?_); rintro e w7 ⟨rfl, hb7⟩))
    exact HQ.out _ _ _ _ _ _ _ _ _ _ _ _ _ _ _ _ _ _ _ _ _ _ _ _ _ _ _ _ _ _ _ _ _ _ _ _ _ _ _ _ _ _ _ _ _ _ _ w7 (((Bel.refl W).drew).trans hb7)
end Go.Proofs.YtjdpoliamcnkbaaDoor.T
