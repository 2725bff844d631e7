import Derived.Test.YtjdpoliamcnkbaaDoorVIcmpBack15
import Derived.Test.YtjdpoliamcnkbaaDoorVIcmpReg13
import Derived.BigRegion
import Derived.StillTailTactics
import Derived.Deep.OwnRows
namespace Go.Proofs.YtjdpoliamcnkbaaDoor.T
open Go.BigFrame Go.RowKit Go.Maps Go.Proofs.YtjdpoliamcnkbaaDoorW.PrintWords
set_option linter.unusedVariables false
set_option linter.unusedSimpArgs false
set_option maxRecDepth 1000000

theorem neq_arr4 (W : World) (a b c d : Int) : (binOp .neq 22 (.agg #[.int .u8 a, .int .u8 b, .int .u8 c, .int .u8 d]) (.agg #[.int .u8 a, .int .u8 b, .int .u8 c, .int .u8 d])).run Tryd.prog W = .ok (.bool false) W := by
  have h := eq_arr4 W a b c d
  rw [run_eql_struct] at h
  rw [run_neq_struct]
  cases e : (Op.equalIn 10000 22 (.agg #[.int .u8 a, .int .u8 b, .int .u8 c, .int .u8 d]) (.agg #[.int .u8 a, .int .u8 b, .int .u8 c, .int .u8 d])).run Tryd.prog W with
  | ok r w1 =>
    rw [e] at h
    simp only [Result.andThen] at h ⊢
    injection h with h1 h2
    injection h1 with h3
    subst h2; subst h3
    rfl
  | halt x w1 => rw [e] at h; simp [Result.andThen] at h

theorem or16 (x y : Nat) (hx : x ≤ 255) (hy : y ≤ 255) : bits .or .u16 ((x : Int) * 256) (y : Int) = ((256 * x + y : Nat) : Int) := by
  rw [u16_or _ _ (by omega) (by omega) (by omega) (by omega)]
  congr 1
  rw [show ((x : Int) * 256).toNat = 2 ^ 8 * x by omega, Int.toNat_natCast, ← Nat.two_pow_add_eq_or_of_lt (show y < 2 ^ 8 by omega)]
theorem xor8 (x : Nat) (z : Int) (hx : x ≤ 255) (h0 : 0 ≤ z) (h1 : z ≤ 255) : bits .xor .u8 (x : Int) z = ((x ^^^ z.toNat : Nat) : Int) := by
  rw [u8_xor _ _ (by omega) (by omega) h0 (by omega), Int.toNat_natCast]

noncomputable def tail11 : Code := tailOf 9 (Tryd.f5.body.getD .skip)
noncomputable def code10 : Code := ((Tryd.f5.body.bind (regionOf21 10)).getD .skip)
set_option maxHeartbeats 8000000 in
theorem back10 {u0 u4 u5 u6 u7 u10 u11 u12 u13 u14 u16 u17 u18 u19 u20 u21 u22 u23 u24 u25 u26 u27 u28 u29 u30 u31 u32 u33 u34 u35 u36 u37 u38 u39 u40 u41 u42 u43 u44 u45 u46 u47 u48 u49 u50 u51 u52 u53 u54 u55 u56 u57 u58 u59 u60 u61 u62 u63 u64 u65 u66 u67 u68 u69 u70 u71 u72 u73 u74 u75 u76 u77 u78 u79 u80 u81 u82 u83 u84 u85 u86 u87 u88 u89 u90 u91 u92 u93 u94 u95 u96 u97 u98 u99 u100 u101 u102 u103 u104 u105 u106 u107 u108 u109 u110 u111 u112 u113 u114 u115 u116 u117 u118 u119 u120 u121 u122 u123 u124 u125 u126 u127 u128 u129 u130 u131 u132 u133 u134 u135 u136 u137 u138 u139 u140 u141 u142 u143 u144 u145 u146 u147 u148 u149 u150 u151 u152 u153 u154 u155 u156 u157 u158 u159 u160 u161 u162 u163 u164 u165 u166 u167 u168 u169 u170 u171 u172 u173 u174 u175 u176 u177 u178 u179 u180 u181 u182 u183 u184 u185 u186 u187 u188 u189 u190 u191 u192 u193 u194 u195 u196 u197 u198 u199 u200 u201 u202 u203 u204 u205 u206 u207 u208 u209 u210 u211 u212 u213 u214 u215 u216 u217 u218 u219 u220 u221 u222 u223 u224 u225 u226 u227 u228 u229 u230 u231 u232 u233 u234 u235 u236 u237 u238 u239 u240 u241 u242 u243 u244 u245 u246 u247 u248 u249 u250 u251 u252 u253 u254 u255 u256 u257 : Value} (g n cap j : Nat) (bs : List Int) (p q : Int) (B : Option Addr) (k0 k ck : Nat) (ys : List Int) (w W : World)
    (how : W.ownsRow w.heap.size 5 1 (.slice (some ⟨g, 0, none⟩) (8 + n) cap) (8 + n) (nums .u8 bs)) (hww : Bel w W) (hgw : w.heap.size ≤ g)
    (bb : Bytes bs) (sb : sumN bs = 0) (lb : bs.length = 8 + n) (hn2 : n % 2 = 0) (hn200 : n ≤ 200)
    (hq0 : 0 ≤ q) (hq1 : q ≤ 65535) (j2 : j % 2 = 0) (jn : j + 1 < 8 + n)
    (hk : k = min k0 300) (hck : k0 ≤ ck) (hy : ReadsInt w .u8 B k ys) (hby : Bytes ys) (hlk : k0 ≤ 140737488351232) (hK : Kinds w)
    (K : Act → World → Prop) (hKK : ∀ a w', Code.wp Tryd.prog tail11 (bodyPost Tryd.prog Tryd.f5 fun e w' => e = .returned (.bool true) ∧ Bel w w') a w' → K a w') :
    Code.wp Tryd.prog code10 (Exit.then K (bodyPost Tryd.prog Tryd.f5 fun e w' => e = .returned (.bool true) ∧ Bel w w')) ⟨List.toArray (u0 :: Value.int .u8 p :: Value.int .u16 q :: Value.slice B k0 ck :: u4 :: u5 :: u6 :: u7 :: Value.bool false :: Value.slice (some ⟨g, 0, none⟩) (8 + n) cap :: u10 :: u11 :: u12 :: u13 :: u14 :: Value.int .i64 j :: u16 :: u17 :: u18 :: u19 :: u20 :: u21 :: u22 :: u23 :: u24 :: u25 :: u26 :: u27 :: u28 :: u29 :: u30 :: u31 :: u32 :: u33 :: u34 :: u35 :: u36 :: u37 :: u38 :: u39 :: u40 :: u41 :: u42 :: u43 :: u44 :: u45 :: u46 :: u47 :: u48 :: u49 :: u50 :: u51 :: u52 :: u53 :: u54 :: u55 :: u56 :: u57 :: u58 :: u59 :: u60 :: u61 :: u62 :: u63 :: u64 :: u65 :: u66 :: u67 :: u68 :: u69 :: u70 :: u71 :: u72 :: u73 :: u74 :: u75 :: u76 :: u77 :: u78 :: u79 :: u80 :: u81 :: u82 :: u83 :: u84 :: u85 :: u86 :: u87 :: u88 :: u89 :: u90 :: u91 :: u92 :: u93 :: u94 :: u95 :: u96 :: u97 :: u98 :: u99 :: u100 :: u101 :: u102 :: u103 :: u104 :: u105 :: u106 :: u107 :: u108 :: u109 :: u110 :: u111 :: u112 :: u113 :: u114 :: u115 :: u116 :: u117 :: u118 :: u119 :: u120 :: u121 :: u122 :: u123 :: u124 :: u125 :: u126 :: u127 :: u128 :: u129 :: u130 :: u131 :: u132 :: u133 :: u134 :: u135 :: u136 :: u137 :: u138 :: u139 :: u140 :: u141 :: u142 :: u143 :: u144 :: u145 :: u146 :: u147 :: u148 :: u149 :: u150 :: u151 :: u152 :: u153 :: u154 :: u155 :: u156 :: u157 :: u158 :: u159 :: u160 :: u161 :: u162 :: u163 :: u164 :: u165 :: u166 :: u167 :: u168 :: u169 :: u170 :: u171 :: u172 :: u173 :: u174 :: u175 :: u176 :: u177 :: u178 :: u179 :: u180 :: u181 :: u182 :: u183 :: u184 :: u185 :: u186 :: u187 :: u188 :: u189 :: u190 :: u191 :: u192 :: u193 :: u194 :: u195 :: u196 :: u197 :: u198 :: u199 :: u200 :: u201 :: u202 :: u203 :: u204 :: u205 :: u206 :: u207 :: u208 :: u209 :: u210 :: u211 :: u212 :: u213 :: u214 :: u215 :: u216 :: u217 :: u218 :: u219 :: u220 :: u221 :: u222 :: u223 :: u224 :: u225 :: u226 :: u227 :: u228 :: u229 :: u230 :: u231 :: u232 :: u233 :: u234 :: u235 :: u236 :: u237 :: u238 :: u239 :: u240 :: u241 :: u242 :: u243 :: u244 :: u245 :: u246 :: u247 :: u248 :: u249 :: u250 :: u251 :: u252 :: u253 :: u254 :: u255 :: u256 :: u257 :: []), []⟩ W := by
  have HY := Aside0.mk hy
  have HBY := Aside0.mk hby
  have HK := Aside0.mk hK
  have HKK := Aside0.mk hk
  have HQ := Aside0.mk (And.intro hq0 hq1)
  have HOW := Aside0.mk how
  have HWW := Aside0.mk hww
  have BB := Aside0.mk bb
  have SB := Aside0.mk sb
  have LB := Aside0.mk lb
  clear hk hy hby hK hq0 hq1 how hww bb sb lb
  obtain ⟨wc, hwc⟩ : ∃ wc, wc = W := ⟨_, rfl⟩
  subst hwc
  conv => arg 2; whnf
  conv at hKK => enter [a, w', 1, 2]; whnf
  obtain ⟨a0, a1⟩ := own_at HOW.out j (by omega) (by omega)
  obtain ⟨b0, b1⟩ := own_at HOW.out ((j : Int) + 1) (by omega) (by omega)
  rw [Int.toNat_natCast] at a0 a1
  rw [show ((j : Int) + 1).toNat = j + 1 by omega] at b0 b1
  have ga := BB.out.getD j
  have gb := BB.out.getD (j + 1)
  have ra : rd bs (j : Int) = bs.getD j 0 := by simp [rd]
  have rb : rd bs ((j : Int) + 1) = bs.getD (j + 1) 0 := by simp [rd, show ((j : Int) + 1).toNat = j + 1 by omega]
  rw [ra] at a0
  rw [rb] at b0
  obtain ⟨x, hx⟩ : ∃ x : Nat, bs.getD j 0 = x := ⟨(bs.getD j 0).toNat, by omega⟩
  obtain ⟨y, hy⟩ : ∃ y : Nat, bs.getD (j + 1) 0 = y := ⟨(bs.getD (j + 1) 0).toNat, by omega⟩
  rw [hx] at a0 ga
  rw [hy] at b0 gb
  have HX2 := Aside0.mk hx
  have HY2 := Aside0.mk hy
  have x8 : (x : Int) ≤ 255 := ga.2
  have y8 : (y : Int) ≤ 255 := gb.2
  have j3 : (j : Int) + 1 < 8 + (n : Int) := by omega
  have j4 : (j : Int) < 8 + (n : Int) := by omega
  clear ga gb ra rb hx hy
  go_quiet (fail)
  go_upto_region 11 with (fail)
  have e16 := or16 x y (by omega) (by omega)
  have HQ2 := HQ.out
  have e17 := xor8 x (q / 256 % 256) (by omega) (by omega) (by omega)
  have e18 := xor8 y (q % 256) (by omega) (by omega) (by omega)
  have eh : (q / 256 % 256).toNat = (q / 256).toNat := by congr 1; omega
  rw [eh] at e17
  obtain ⟨h, hh⟩ : ∃ h : Nat, h = (q / 256).toNat := ⟨_, rfl⟩
  obtain ⟨l, hl⟩ : ∃ l : Nat, l = (q % 256).toNat := ⟨_, rfl⟩
  rw [← hh] at e17
  rw [← hl] at e18
  have HH2 := Aside0.mk hh
  have HL2 := Aside0.mk hl
  have E16 := Aside0.mk e16
  have E17 := Aside0.mk e17
  have E18 := Aside0.mk e18
  clear e16 e17 e18 HQ2 eh hh hl
  obtain ⟨ds, hds⟩ : ∃ ds, ds = (bs.set j ((x ^^^ h : Nat) : Int)).set (j + 1) ((y ^^^ l : Nat) : Int) := ⟨_, rfl⟩
  have HDS := Aside0.mk hds
  clear hds
  go_region
  rw [E16.out, E17.out, E18.out]
  obtain ⟨wd, hwd⟩ : ∃ wd, wd = ((World.drewN wc (nq + 1)).setCell ⟨g, j, none⟩ (.int .u8 ((x ^^^ h : Nat) : Int))).setCell ⟨g, j + 1, none⟩ (.int .u8 ((y ^^^ l : Nat) : Int)) := ⟨_, rfl⟩
  rw [← hwd]
  have HOD := Aside0.mk (show wd.ownsRow w.heap.size 5 1 (.slice (some ⟨g, 0, none⟩) (8 + n) cap) (8 + n) (nums .u8 ds) from by
    have o1 := (own_store (((Bel.refl wc).drewN (nq + 1)).own HOW.out) (j : Int) ((x ^^^ h : Nat) : Int)).1
    have o2 := (own_store o1 ((j : Int) + 1) ((y ^^^ l : Nat) : Int)).1
    rw [Int.toNat_natCast, show ((j : Int) + 1).toNat = j + 1 by omega] at o2
    rw [hwd, HDS.out]
    exact o2)
  have HWD := Aside0.mk (show Bel w wd from by rw [hwd]; exact Bel.setCell (Bel.setCell (HWW.out.drewN _) hgw _) hgw _)
  have LD := Aside0.mk (show ds.length = 8 + n by rw [HDS.out]; simp [LB.out])
  have BD := Aside0.mk (show Bytes ds by
    have hqq := HQ.out
    have q1 := HH2.out
    have q2 := HL2.out
    have u1 : x ^^^ h < 256 := Nat.xor_lt_two_pow (n := 8) (by omega) (by omega)
    have u2 : y ^^^ l < 256 := Nat.xor_lt_two_pow (n := 8) (by omega) (by omega)
    rw [HDS.out]; exact bytes_set (bytes_set BB.out j _ (by omega) (by omega)) (j + 1) _ (by omega) (by omega))
  have hw9 := word_ok BB.out SB.out j (by rw [LB.out]; omega) j2 x y h l HX2.out HY2.out (by have := HH2.out; have := HQ.out; omega) (by have := HL2.out; have := HQ.out; omega)
  rw [← HDS.out, LB.out] at hw9
  have HW9 := Aside0.mk hw9
  clear hwd hw9 HOW HWW a0 a1 b0 b1
  obtain ⟨m0, m1, m2, m3, m4, m5, body, code, hg5⟩ := getN_ex ds
  have HG5 := Aside0.mk hg5
  have HGE := Aside0.mk (get_any (some ⟨g, 0, none⟩) (8 + n) cap ds m0 m1 m2 m3 m4 m5 body code wd (own_le HOD.out) (own_reads' HOD.out) BD.out (by omega) hg5)
  clear hg5
  go_upto_region 13 with (first
    | (go_at_call 12; (with_reducible refine HGE.out.mono ?_); rintro e w5 ⟨A5, k5, rfl, ho5, hb5⟩; have HB5 := Aside0.mk hb5; clear ho5 hb5))
  obtain ⟨W6, hW6⟩ : ∃ W6, W6 = w5.alloc (.cells #[.int .u8 m0, .int .u8 m1, .int .u8 m2, .int .u8 m3, .int .u8 m4, .int .u8 m5, .slice A5 body.length k5] 25) := ⟨_, rfl⟩
  have HB6 := Aside0.mk (show Bel wd W6 from by rw [hW6]; exact HB5.out.alloc _)
  have HBW6 := Aside0.mk (HWD.out.trans HB6.out)
  rw [← hW6]
  have HW6 := Aside0.mk hW6
  clear hW6
  have code3 : (¬ sumN ds = 0 ∧ code = 21) ∨ (sumN ds = 0 ∧ code = 0) := by
    have := LD.out
    rcases HG5.out with ⟨z, _⟩ | ⟨z, zs, _, _, _, _, _, _, _, e⟩ | ⟨z, zs, _, _, _, _, _, _, _, e⟩
    · omega
    · exact .inl ⟨zs, e⟩
    · exact .inr ⟨zs, e⟩
  go_cut [3, 8, 181] (fun v3 v8 v181 wz => v3 = .slice B k0 ck ∧ v8 = .bool false ∧ v181 = .bool false ∧ Aside0 (Bel w wz))
  case first =>
    by_cases hI : q = 0
    · subst hI
      obtain rfl : code = 0 := by
        have h1 := HH2.out
        have h2 := HL2.out
        rcases code3 with ⟨z, _⟩ | ⟨_, e⟩
        · exact absurd (HW9.out.2 (.inl ⟨h1, h2⟩)) z
        · exact e
      clear code3
      go_quiet (fail)
      go_wp2
      go_meet
      case rel => exact ⟨rfl, rfl, rfl, ⟨by repeat (first | exact HBW6.out | apply Bel.drewN | apply Bel.drew)⟩⟩
    · have t0 : (q == 0) = false := by simpa using hI
      by_cases hq5 : q = 65535
      · subst hq5
        by_cases hII : (x = 0 ∧ y = 0) ∨ (x = 255 ∧ y = 255)
        · have hcase : (strOfNums ds = strOfNums (List.replicate (8 + n) 0) ∧ code = 21) ∨ (¬ strOfNums ds = strOfNums (List.replicate (8 + n) 0) ∧ code = 0) := by
            by_cases hds : ds = List.replicate (8 + n) 0
            · refine .inl ⟨by rw [hds], ?_⟩
              rcases code3 with ⟨_, e⟩ | ⟨z, _⟩
              · exact e
              · rcases HW9.out.1 z with ⟨h1, h2⟩ | ⟨_, _, h3⟩
                · have g1 := HH2.out
                  omega
                · exact absurd hds h3
            · refine .inr ⟨fun e => hds (str_inj BD.out (fun z hz => by
                rw [List.mem_replicate] at hz
                omega) e), ?_⟩
              rcases code3 with ⟨z, _⟩ | ⟨_, e⟩
              · refine absurd (HW9.out.2 (.inr ⟨⟨?_, ?_⟩, hII, hds⟩)) z
                · have g1 := HH2.out
                  omega
                · have g2 := HL2.out
                  omega
              · exact e
          have hwas : (256 * (x : Int) + (y : Int)) = 0 ∨ (256 * (x : Int) + (y : Int)) = 65535 := by omega
          have hr13 := HB6.out.reads (own_reads' HOD.out)
          clear code3
          refine reg13 (A := some ⟨g, 0, none⟩) (m := 8 + n) (c := cap) (was := 256 * (x : Int) + (y : Int)) (code := code) (ds := ds) (W := W6) (hm := by omega) (hmc := own_le HOD.out) (hr := hr13) (hcase := hcase) (hwas := hwas) (hQ := ?_)
          intro x148 x149 x150 x151 x152 x153 x154 x155 x156 x157 x158 x159 x160 x161 x162 x163 x164 x165 x166 x167 x168 x169 x170 x171 x172 x173 x174 x175 x176 x177 x178 x179 x180 w13 hb13
          go_wp2
          go_meet
          case rel => exact ⟨rfl, rfl, rfl, ⟨HBW6.out.trans hb13⟩⟩
        · obtain rfl : code = 21 := by
            rcases code3 with ⟨_, e⟩ | ⟨z, _⟩
            · exact e
            · rcases HW9.out.1 z with ⟨h1, h2⟩ | ⟨_, h2, _⟩
              · have g1 := HH2.out
                have g2 := HL2.out
                omega
              · exact absurd h2 hII
          have t2 : ((256 * (x : Int) + (y : Int)) == 0) = false := by simp; omega
          have t3 : ((256 * (x : Int) + (y : Int)) == 65535) = false := by simp; omega
          clear code3
          go_quiet (fail)
          go_wp2
          go_meet
          case rel => exact ⟨rfl, rfl, rfl, ⟨by repeat (first | exact HBW6.out | apply Bel.drewN | apply Bel.drew)⟩⟩
      · have t1 : (q == 65535) = false := by simpa using hq5
        obtain rfl : code = 21 := by
          rcases code3 with ⟨_, e⟩ | ⟨z, _⟩
          · exact e
          · have g1 := HH2.out
            have g2 := HL2.out
            have g3 := HQ.out
            rcases HW9.out.1 z with ⟨h1, h2⟩ | ⟨⟨h1, h2⟩, _⟩ <;> omega
        clear code3
        go_quiet (fail)
        go_wp2
        go_meet
        case rel => exact ⟨rfl, rfl, rfl, ⟨by repeat (first | exact HBW6.out | apply Bel.drewN | apply Bel.drew)⟩⟩
  case rest =>
    obtain ⟨rfl, rfl, rfl, hbz⟩ := hcut
    go_upto_region 15 with (fail)
    exact back15 (K := _) (hKK := by assumption) (B := B) (k0 := k0) (k := k) (ck := ck) (ys := ys) (w := w) (W := _) (hwW := hbz.out) (hk := HKK.out) (hck := hck) (hy := HY.out) (hby := HBY.out) (hlk := hlk) (hK := HK.out)
end Go.Proofs.YtjdpoliamcnkbaaDoor.T
