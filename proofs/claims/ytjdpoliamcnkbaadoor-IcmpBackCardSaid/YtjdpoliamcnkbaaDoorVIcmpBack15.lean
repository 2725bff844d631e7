import Derived.Test.YtjdpoliamcnkbaaDoorVIcmpReg21
import Derived.BigRegion
import Derived.StillTailTactics
namespace Go.Proofs.YtjdpoliamcnkbaaDoor.T
open Go.BigFrame Go.RowKit Go.Maps Go.Proofs.YtjdpoliamcnkbaaDoorW.PrintWords
set_option linter.unusedVariables false
set_option linter.unusedSimpArgs false
set_option maxRecDepth 1000000

/-- The code behind its first n limbs. -/
def tailOf : Nat → Code → Code
  | 0, c => c
  | n + 1, .seq _ b => tailOf n b
  | _ + 1, c => c
noncomputable def tail16 : Code := tailOf 12 (Tryd.f5.body.getD .skip)
noncomputable def code15 : Code := ((Tryd.f5.body.bind (regionOf21 15)).getD .skip)
set_option maxHeartbeats 4000000 in
theorem back15 {u0 u1 u2 u4 u5 u6 u7 u9 u10 u11 u12 u13 u14 u15 u16 u17 u18 u19 u20 u21 u22 u23 u24 u25 u26 u27 u28 u29 u30 u31 u32 u33 u34 u35 u36 u37 u38 u39 u40 u41 u42 u43 u44 u45 u46 u47 u48 u49 u50 u51 u52 u53 u54 u55 u56 u57 u58 u59 u60 u61 u62 u63 u64 u65 u66 u67 u68 u69 u70 u71 u72 u73 u74 u75 u76 u77 u78 u79 u80 u81 u82 u83 u84 u85 u86 u87 u88 u89 u90 u91 u92 u93 u94 u95 u96 u97 u98 u99 u100 u101 u102 u103 u104 u105 u106 u107 u108 u109 u110 u111 u112 u113 u114 u115 u116 u117 u118 u119 u120 u121 u122 u123 u124 u125 u126 u127 u128 u129 u130 u131 u132 u133 u134 u135 u136 u137 u138 u139 u140 u141 u142 u143 u144 u145 u146 u147 u148 u149 u150 u151 u152 u153 u154 u155 u156 u157 u158 u159 u160 u161 u162 u163 u164 u165 u166 u167 u168 u169 u170 u171 u172 u173 u174 u175 u176 u177 u178 u179 u180 u181 u182 u183 u184 u185 u186 u187 u188 u189 u190 u191 u192 u193 u194 u195 u196 u197 u198 u199 u200 u201 u202 u203 u204 u205 u206 u207 u208 u209 u210 u211 u212 u213 u214 u215 u216 u217 u218 u219 u220 u221 u222 u223 u224 u225 u226 u227 u228 u229 u230 u231 u232 u233 u234 u235 u236 u237 u238 u239 u240 u241 u242 u243 u244 u245 u246 u247 u248 u249 u250 u251 u252 u253 u254 u255 u256 u257 : Value} (B : Option Addr) (k0 k ck : Nat) (ys : List Int) (w W : World) (hwW : Bel w W) (hk : k = min k0 300) (hck : k0 ≤ ck) (hy : ReadsInt w .u8 B k ys) (hby : Bytes ys) (hlk : k0 ≤ 140737488351232) (hK : Kinds w)
    (K : Act → World → Prop) (hKK : ∀ a w', Code.wp Tryd.prog tail16 (bodyPost Tryd.prog Tryd.f5 fun e w' => e = .returned (.bool true) ∧ Bel w w') a w' → K a w') :
    Code.wp Tryd.prog code15 (Exit.then K (bodyPost Tryd.prog Tryd.f5 fun e w' => e = .returned (.bool true) ∧ Bel w w')) ⟨List.toArray (u0 :: u1 :: u2 :: Value.slice B k0 ck :: u4 :: u5 :: u6 :: u7 :: Value.bool false :: u9 :: u10 :: u11 :: u12 :: u13 :: u14 :: u15 :: u16 :: u17 :: u18 :: u19 :: u20 :: u21 :: u22 :: u23 :: u24 :: u25 :: u26 :: u27 :: u28 :: u29 :: u30 :: u31 :: u32 :: u33 :: u34 :: u35 :: u36 :: u37 :: u38 :: u39 :: u40 :: u41 :: u42 :: u43 :: u44 :: u45 :: u46 :: u47 :: u48 :: u49 :: u50 :: u51 :: u52 :: u53 :: u54 :: u55 :: u56 :: u57 :: u58 :: u59 :: u60 :: u61 :: u62 :: u63 :: u64 :: u65 :: u66 :: u67 :: u68 :: u69 :: u70 :: u71 :: u72 :: u73 :: u74 :: u75 :: u76 :: u77 :: u78 :: u79 :: u80 :: u81 :: u82 :: u83 :: u84 :: u85 :: u86 :: u87 :: u88 :: u89 :: u90 :: u91 :: u92 :: u93 :: u94 :: u95 :: u96 :: u97 :: u98 :: u99 :: u100 :: u101 :: u102 :: u103 :: u104 :: u105 :: u106 :: u107 :: u108 :: u109 :: u110 :: u111 :: u112 :: u113 :: u114 :: u115 :: u116 :: u117 :: u118 :: u119 :: u120 :: u121 :: u122 :: u123 :: u124 :: u125 :: u126 :: u127 :: u128 :: u129 :: u130 :: u131 :: u132 :: u133 :: u134 :: u135 :: u136 :: u137 :: u138 :: u139 :: u140 :: u141 :: u142 :: u143 :: u144 :: u145 :: u146 :: u147 :: u148 :: u149 :: u150 :: u151 :: u152 :: u153 :: u154 :: u155 :: u156 :: u157 :: u158 :: u159 :: u160 :: u161 :: u162 :: u163 :: u164 :: u165 :: u166 :: u167 :: u168 :: u169 :: u170 :: u171 :: u172 :: u173 :: u174 :: u175 :: u176 :: u177 :: u178 :: u179 :: u180 :: u181 :: u182 :: u183 :: u184 :: u185 :: u186 :: u187 :: u188 :: u189 :: u190 :: u191 :: u192 :: u193 :: u194 :: u195 :: u196 :: u197 :: u198 :: u199 :: u200 :: u201 :: u202 :: u203 :: u204 :: u205 :: u206 :: u207 :: u208 :: u209 :: u210 :: u211 :: u212 :: u213 :: u214 :: u215 :: u216 :: u217 :: u218 :: u219 :: u220 :: u221 :: u222 :: u223 :: u224 :: u225 :: u226 :: u227 :: u228 :: u229 :: u230 :: u231 :: u232 :: u233 :: u234 :: u235 :: u236 :: u237 :: u238 :: u239 :: u240 :: u241 :: u242 :: u243 :: u244 :: u245 :: u246 :: u247 :: u248 :: u249 :: u250 :: u251 :: u252 :: u253 :: u254 :: u255 :: u256 :: u257 :: []), []⟩ W := by
  have HY := Aside0.mk hy
  have HBY := Aside0.mk hby
  have HK := Aside0.mk hK
  have HWW := Aside0.mk hwW
  have HKK := Aside0.mk hk
  have hk300 : k ≤ 300 := by omega
  have hkck : k ≤ ck := by omega
  clear hwW hk hy hby hK
  conv => arg 2; whnf
  conv at hKK => enter [a, w', 1, 2]; whnf
  go_cut [3, 8] (fun v3 v8 wc => v3 = .slice B k ck ∧ v8 = .bool false ∧ wc = W)
  case first =>
    by_cases hm : (k0 : Int) ≤ 300
    · obtain rfl : k = k0 := by have := HKK.out; omega
      have e2 : (k : Int) ≤ (ck : Int) := by omega
      go_wp2
      go_meet
      case rel => exact ⟨rfl, rfl, rfl⟩
    · obtain rfl : k = 300 := by have := HKK.out; omega
      have e2 : (300 : Int) ≤ (ck : Int) := by omega
      go_wp2
      go_meet
      case rel => exact ⟨rfl, rfl, rfl⟩
  case rest =>
    obtain ⟨rfl, rfl, rfl⟩ := hcut
    obtain ⟨m0, m1, m2, m3, m4, m5, body, code, hg⟩ := getN_ex ys
    have HG := Aside0.mk hg
    have HGET := Aside0.mk (get_any B k ck ys m0 m1 m2 m3 m4 m5 body code wc hkck (HWW.out.reads HY.out) HBY.out (by omega) hg)
    clear hg
    go_upto_region 17 with (first
      | (go_at_call 12; (with_reducible refine HGET.out.mono ?_); rintro e w2 ⟨A2, k2, rfl, ho2, hb2⟩; have HO2 := Aside0.mk ho2; have HB2 := Aside0.mk hb2; clear ho2 hb2))
    have hbase := HWW.out.out.size
    have hcase := HG.out
    rcases hcase with ⟨h8, z0, z1, z2, z3, z4, z5, zb, hcode⟩ | ⟨h8, hs, z0, z1, z2, z3, z4, z5, zb, hcode⟩ | ⟨h8, hs, z0, z1, z2, z3, z4, z5, zb, hcode⟩
    · subst hcode
      have hl : k < 8 := by have := reads_len HY.out; omega
      have hl' : (k : Int) < 8 := by omega
      have HT := Aside0.mk (fun V (hV : Bel w2 V) => tells8_any V (HK.out.bel (HWW.out.trans (HB2.out.trans hV))))
      clear z0 z1 z2 z3 z4 z5 zb h8
      go_wp2_with (first
        | (go_at_call 11; (with_reducible refine (HT.out _ (by repeat (first | assumption | exact Bel.refl _ | apply Bel.drewN | apply Bel.alloc | refine Bel.trans ?_ (by assumption)))).mono ?_); rintro e w7 ⟨rfl, hb7⟩))
      go_ret
      exact ⟨rfl, (HWW.out.trans HB2.out).trans (by repeat (first | assumption | exact Bel.refl _ | apply Bel.drewN | apply Bel.alloc | refine Bel.trans ?_ (by assumption)))⟩
    · subst hcode
      have hl : ¬ k < 8 := by have := reads_len HY.out; omega
      have hl' : (8 : Int) ≤ (k : Int) := by omega
      have HT := Aside0.mk (fun V (hV : Bel w2 V) => tells8_any V (HK.out.bel (HWW.out.trans (HB2.out.trans hV))))
      clear z0 z1 z2 z3 z4 z5 zb h8
      go_wp2_with (first
        | (go_at_call 11; (with_reducible refine (HT.out _ (by repeat (first | assumption | exact Bel.refl _ | apply Bel.drewN | apply Bel.alloc | refine Bel.trans ?_ (by assumption)))).mono ?_); rintro e w7 ⟨rfl, hb7⟩))
      go_ret
      exact ⟨by simp; omega, (HWW.out.trans HB2.out).trans (by repeat (first | assumption | exact Bel.refl _ | apply Bel.drewN | apply Bel.alloc | refine Bel.trans ?_ (by assumption)))⟩
    · subst hcode
      obtain ⟨a0, a1, a2, a3, a4, a5, a6, a7, zs, rfl⟩ : ∃ a0 a1 a2 a3 a4 a5 a6 a7 zs, ys = a0 :: a1 :: a2 :: a3 :: a4 :: a5 :: a6 :: a7 :: zs := by
        rcases ys with _ | ⟨a0, _ | ⟨a1, _ | ⟨a2, _ | ⟨a3, _ | ⟨a4, _ | ⟨a5, _ | ⟨a6, _ | ⟨a7, zs⟩⟩⟩⟩⟩⟩⟩⟩
        · simp at h8
        · simp at h8
        · simp at h8
        · simp at h8
        · simp at h8
        · simp at h8
        · simp at h8
        · simp at h8
        · exact ⟨a0, a1, a2, a3, a4, a5, a6, a7, zs, rfl⟩
      change m0 = a0 at z0
      change m1 = a1 at z1
      change m2 = a4 at z2
      change m3 = a5 at z3
      change m4 = a6 at z4
      change m5 = a7 at z5
      change body = zs at zb
      subst z0 z1 z2 z3 z4 z5 zb
      have hkl : k = body.length + 8 := by have := reads_len HY.out; simpa using this.symm
      have hbz : Bytes body := fun x hx => HBY.out x (by simp [hx])
      have hbh : Bytes [m0, m1, m2, m3, m4, m5] := fun x hx => HBY.out x (by simp at hx ⊢; rcases hx with h | h | h | h | h | h <;> simp [h])
      have HS := Aside0.mk hs
      have hag := again m0 m1 a2 a3 m2 m3 m4 m5 body HBY.out hs
      have HPUT := Aside0.mk (fun V (hV : Bel w2 V) => put_ok m0 m1 m2 m3 m4 m5 A2 body.length k2 body V (by omega) rfl (hV.reads (own_reads' HO2.out)) hbz hbh)
      clear hs h8
      go_upto_region 20 with (first
        | (go_at_call 15; (with_reducible refine (HPUT.out _ (by repeat (first | assumption | exact Bel.refl _ | apply Bel.drewN | apply Bel.alloc | refine Bel.trans ?_ (by assumption)))).mono ?_); rintro e w4 ⟨v4, rfl, ho4, hb4⟩; obtain ⟨A4, c4, rfl⟩ := own_slice ho4; have HO4 := Aside0.mk ho4; have HB4 := Aside0.mk hb4; clear ho4 hb4))
      obtain ⟨g, cap, e4, hgb, hgl⟩ := HO4.out.form (by omega)
      injection e4 with e41 e42 e43
      subst e41
      subst e43
      clear e42
      have hbw4 : Bel wc w4 := HB2.out.trans ((show Bel w2 _ from by repeat (first | exact Bel.refl _ | apply Bel.alloc)).trans HB4.out)
      have HB40 := Aside0.mk (HWW.out.trans hbw4)
      obtain ⟨ab, ao, rfl, hcell⟩ := reads_plain HY.out (by omega)
      have hcc : 8 + body.length ≤ c4 := own_le HO4.out
      have r4 := own_reads' HO4.out
      have rB := HB40.out.reads HY.out
      have HR4 := Aside0.mk r4
      have HRB := Aside0.mk rB
      have s1 := r4.take_ 2 (by omega)
      have s2 := (r4.take_ 4 (by omega)).drop_ 2 (by omega) (c := c4) (by omega)
      have s3 := r4.drop_ 4 (by omega) (c := c4) hcc
      have u1 := rB.take_ 2 (by omega)
      have u2 := (rB.take_ 4 (by omega)).drop_ 2 (by omega) (c := ck) (by omega)
      have u3 := rB.drop_ 4 (by omega) (c := ck) (by omega)
      rw [if_neg (by omega : ¬ c4 = 2)] at s2
      rw [if_neg (by omega : ¬ c4 = 4)] at s3
      rw [if_neg (by omega : ¬ ck = 2)] at u2
      rw [if_neg (by omega : ¬ ck = 4)] at u3
      have v1 : (putB m0 m1 m2 m3 m4 m5 body).take 2 = [m0, m1] := rfl
      have v2 : ((putB m0 m1 m2 m3 m4 m5 body).take 4).drop 2 = [sumN (pre m0 m1 m2 m3 m4 m5 body) / 256, sumN (pre m0 m1 m2 m3 m4 m5 body) % 256] := rfl
      have v3 : (putB m0 m1 m2 m3 m4 m5 body).drop 4 = m2 :: m3 :: m4 :: m5 :: body := rfl
      rw [v1] at s1
      rw [v2] at s2
      rw [v3] at s3
      change ReadsInt w4 .u8 _ 2 [m0, m1] at u1
      change ReadsInt w4 .u8 _ (4 - 2) [a2, a3] at u2
      change ReadsInt w4 .u8 _ (k - 4) (m2 :: m3 :: m4 :: m5 :: body) at u3
      simp only [Option.map_some, Go.WideShapes.add_plain, Nat.zero_add] at s2 s3 u2 u3
      have hb8 : Bel w4 (World.drew w4) := (Bel.refl w4).drew
      have k1 := conv_reads (c := c4) (hb8.reads s1)
      have k2' := conv_reads (c := c4 - 2) (hb8.reads s2)
      have k3 := conv_reads (c := c4 - 4) (hb8.reads s3)
      have l1 := conv_reads (c := ck) (hb8.reads u1)
      have l2 := conv_reads (c := ck - 2) u2
      have l3 := conv_reads (c := ck - 4) (hb8.reads u3)
      have HB8 := Aside0.mk hb8
      clear hb8
      have HT := Aside0.mk (fun V (hV : Bel w4 V) => tells8_any V (HK.out.bel (HB40.out.trans hV)))
      have c4' : (4 : Int) ≤ (c4 : Int) := by omega
      have c2' : (2 : Int) ≤ (c4 : Int) := by omega
      have n4' : ¬ c4 = 4 := by omega
      have n2' : ¬ c4 = 2 := by omega
      have p4' : (4 : Int) ≤ (ck : Int) := by omega
      have p2' : (2 : Int) ≤ (ck : Int) := by omega
      have o4' : ¬ ck = 4 := by omega
      have o2' : ¬ ck = 2 := by omega
      clear r4 rB s1 s2 s3 u1 u2 u3 v1 v2 v3 hcell
      go_upto_region 21 with (fail)
      have b2 := (HBY.out.getD 2)
      have b3 := (HBY.out.getD 3)
      change 0 ≤ a2 ∧ a2 ≤ 255 at b2
      change 0 ≤ a3 ∧ a3 ≤ 255 at b3
      generalize sumN (pre m0 m1 m2 m3 m4 m5 body) = sm at hag k2'
      have kl : k = body.length + 8 := by omega
      rw [kl] at l3
      have hs2 : strOfNums [sm / 256, sm % 256] = strOfNums [a2, a3] ∨ (¬ strOfNums [sm / 256, sm % 256] = strOfNums [a2, a3] ∧ strOfNums [a2, a3] = ⟨#[255, 255]⟩ ∧ strOfNums [sm / 256, sm % 256] = ⟨#[0, 0]⟩) := by
        rcases hag with hag | ⟨h1, h2⟩
        · have e1 : sm / 256 = a2 := by omega
          have e2 : sm % 256 = a3 := by omega
          rw [e1, e2]
          exact .inl rfl
        · obtain rfl : a2 = 255 := by omega
          obtain rfl : a3 = 255 := by omega
          subst h2
          refine .inr ⟨?_, rfl, rfl⟩
          rw [show strOfNums [255, 255] = (⟨#[255, 255]⟩ : ByteArray) from rfl, show strOfNums [(0 : Int) / 256, 0 % 256] = (⟨#[0, 0]⟩ : ByteArray) from rfl]
          intro h
          injection h with h
          simp at h
      have hb8 := HB8.out
      have hT := HT.out _ hb8
      have hB := HB40.out
      clear hag b2 b3 HT HB8 HB40
      refine reg21 (ab := ab) (ao := ao) (g := g) (k := body.length) (c4 := c4) (ck := ck) (sa := strOfNums [m0, m1]) (sb := strOfNums (m2 :: m3 :: m4 :: m5 :: body)) (sx := strOfNums [sm / 256, sm % 256]) (sy := strOfNums [a2, a3]) (W := w4) (hc4 := hcc) (hck := by omega) (k1 := k1) (k2 := k2') (k3 := k3) (l1 := l1) (l3 := l3) (hT := hT) (hs := hs2) (hQ := ?_)
      intro x211 x212 x213 x214 x215 x216 x217 x218 x219 x220 x221 x222 x223 x224 x225 x226 x227 x228 x229 x230 x231 x232 x233 x234 x235 x236 x237 x238 x239 x240 x241 x242 x243 x244 x245 x246 x247 x248 x249 x250 x251 x252 x253 x254 x255 x256 x257 w9 hb9
      go_wp2
      go_ret
      exact ⟨rfl, hB.trans hb9⟩
end Go.Proofs.YtjdpoliamcnkbaaDoor.T
