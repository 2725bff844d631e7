/- Texts of this proof, gathered. What each part says stands at its head; conditions: none but those that its theorems name. -/
import Derived.Test.YtongccpmdndcgaaLea
import Derived.Test.YtongccpmdndcgaaTol
import Derived.Test.YtongccpmdndcgaaE4
import Derived.OpenShut
/- Plain laws of the static station. -/
section
set_option linter.all false
namespace Go.Proofs.Ytongccpmdndcgaa.Lrn
open Go Go.AE Go.Proofs.Ytongccpmdndcgaa.Alm Go.Proofs.Ytongccpmdndcgaa.Tab Go.Sort Go.Proofs
set_option maxRecDepth 100000
variable {T : List E}

abbrev kS (d w : Nat) : ByteArray := keyB d [2, 0, 0, 0, 0, w % 8]
theorem kS_size {d w : Nat} : (kS d w).size = 8 := keyB_size rfl
theorem kS_mac {w : Nat} : Mac [2, 0, 0, 0, 0, w % 8] := ⟨rfl, by intro b hb; simp at hb; omega⟩
theorem kS_inj {d e w v : Nat} (hd : d < 65536) (he : e < 65536) (h : kS d w = kS e v) : d = e ∧ w % 8 = v % 8 := by
  have h1 := congrArg kD h
  have h2 := congrArg kM h
  rw [keyB_D hd, keyB_D he] at h1
  rw [keyB_M kS_mac, keyB_M kS_mac] at h2
  simp at h2
  exact ⟨h1, h2⟩
theorem not_bad {k : ByteArray} {t : Int} (h : k.size = 8) (h1 : 0 ≤ t) (h2 : t ≤ 1099511627776) : ¬ bad k t := by unfold bad; omega
/-- Put in a table that has room. -/
theorem putT_room {room : Nat} {ref : Bool} {k : ByteArray} {v t : Int} (h8 : k.size = 8) (h1 : 0 ≤ t) (h2 : t ≤ 1099511627776) (hst : ((getE k T).map (·.2.2.2)).getD false = false) (hr : T.length < room) : putT T room ref k v t = (putE (k, v, t, false) T, zE, 0) := by
  unfold putT
  rw [if_neg (not_bad h8 h1 h2), if_neg (by rw [hst]; simp)]
  unfold layT
  rw [if_neg (by rintro ⟨_, w⟩; omega)]
theorem putE_len_le (h : KS T) (e : E) : (putE e T).length ≤ T.length + 1 := by
  rw [putE_len h]; split <;> omega
/-- What See does where there is room. -/
theorem seeT_static {age : Int} {k : ByteArray} {e : E} {p now : Int} (hg : getE k T = some e) (hs : e.2.2.2 = true) : seeT T age k p now = (T, if e.2.1 = p then 0 else 3) := by simp [seeT, hg, hs]
theorem seeT_room {age : Int} {k : ByteArray} {p now : Int} (h8 : k.size = 8) (hst : ((getE k T).map (·.2.2.2)).getD false = false) (ha : age ≠ 0) (h1 : 0 ≤ now + age) (h2 : now + age ≤ 1099511627776) (hr : T.length < 256) :
    seeT T age k p now = (putE (k, p, now + age, false) T, match getE k T with | some e => if e.2.1 = p then 0 else 2 | none => 1) := by
  unfold seeT
  rw [if_neg (by rw [hst]; simp), if_neg ha]
  have : ¬ 1099511627776 < now + age := by omega
  rw [if_neg this, putT_room h8 h1 h2 hst hr]
  simp only [if_true]
  cases getE k T <;> rfl
structure FixI (T : List E) (k0 : ByteArray) (p4 : Int) (m : Nat) : Prop where
  g : getE k0 T = some (k0, p4, 0, true)
  st : ∀ e ∈ T, e.2.2.2 = true → e.1 = k0
  len : T.length ≤ m
theorem FixI.tick {k0 : ByteArray} {p4 : Int} {m : Nat} (h : FixI T k0 p4 m) (hks : KS T) (now : Int) : FixI (restT T now) k0 p4 m := by
  refine ⟨(getE_iff (rest_ks hks now).nd).2 ⟨mem_rest.2 ⟨(getE_key h.g).1, .inl rfl⟩, rfl⟩, fun e he => h.st e (mem_rest.1 he).1, Nat.le_trans (List.length_filter_le _ _) h.len⟩
theorem FixI.see {k0 : ByteArray} {p4 : Int} {m : Nat} (h : FixI T k0 p4 m) (hks : KS T) (hm : m < 256) {k : ByteArray} (h8 : k.size = 8) {p now : Int} (h1 : 0 ≤ now) (h2 : now ≤ 1000) :
    FixI (seeT T 5 k p now).1 k0 p4 (m + 1) ∧ ((seeT T 5 k p now).2 = 3 ↔ k = k0 ∧ p ≠ p4) := by
  by_cases hk : k = k0
  · subst hk
    rw [seeT_static h.g rfl]
    refine ⟨⟨h.g, h.st, by have := h.len; simp only; omega⟩, ?_⟩
    simp only
    by_cases hp : p4 = p
    · simp [hp]
    · rw [if_neg hp]; simp; exact fun e => hp e.symm
  · have hst : ((getE k T).map (·.2.2.2)).getD false = false := by
      cases hg : getE k T with
      | none => rfl
      | some e =>
        obtain ⟨q1, q2⟩ := getE_key hg
        cases hs : e.2.2.2 with
        | false => simp [hs]
        | true => exact absurd ((h.st e q1 hs).symm.trans q2).symm hk
    rw [seeT_room h8 hst (by omega) (by omega) (by omega) (by have := h.len; omega)]
    refine ⟨⟨?_, fun e he hs => ?_, by have := putE_len_le hks (k, p, now + 5, false); have := h.len; simp only; omega⟩, ?_⟩
    · rw [getE_put hks, if_neg (fun w => hk w.symm)]; exact h.g
    · rcases mem_putE.1 he with rfl | ⟨w, _⟩
      · simp at hs
      · exact h.st e w hs
    · have : ∀ o : Option E, (match o with | some e => if e.2.1 = p then (0 : Int) else 2 | none => 1) ≠ 3 := by
        intro o
        cases o with
        | none => simp
        | some e => simp only; split <;> omega
      simp only
      exact ⟨fun w => absurd w (this _), fun w => absurd w.1 hk⟩
end Go.Proofs.Ytongccpmdndcgaa.Lrn
end
/- The law on static stations: the run. -/
section
set_option linter.all false
namespace Go.Proofs.Ytongccpmdndcgaa.Lrn
open Go Go.AE Go.Proofs.Ytongccpmdndcgaa.Alm Go.Proofs.Ytongccpmdndcgaa.Tab Go.Sort Go.Proofs
set_option maxRecDepth 100000
set_option maxHeartbeats 4000000
attribute [local irreducible] Go.AE.Tr.put Go.AE.Tr.get
variable {gs : List Nat} {orc : Orc} {n : Nat} {σ : AHeap} {Q : Value × AHeap → Prop}

structure FreeS (orc : Orc) : Prop extends FreeL orc where
  h10 : orc 10 = none
  h11 : orc 11 = none
  h12 : orc 12 = none
  h68 : orc 68 = none
  h70 : orc 70 = none
  h71 : orc 71 = none
  h77 : orc 77 = none
  h133 : orc 133 = none
theorem W_blk_cut {id : Nat} {x : Option (AExit × AFr × AHeap)} {K : AExit × AFr × AHeap → Prop} (R : AFr → AHeap → Prop) (h1 : W x fun r => ∃ fr σ, r = (.exit id, fr, σ) ∧ R fr σ) (h2 : ∀ fr σ, R fr σ → K (.normal, fr, σ)) : W x (KBlk id K) :=
  h1.mono fun r ⟨fr, σ, e, h⟩ => by subst e; rw [KBlk_exit, if_pos rfl]; exact h2 fr σ h
abbrev Sn := Nat × Nat × Nat × Nat
def encSn (x : Sn) : List Value := [.int .u8 (x.1 : Int), .int .u8 (x.2.1 : Int), .int .u8 (x.2.2.1 : Int), .int .u8 (x.2.2.2 : Int)]
theorem encSnOk : Enc 4 encSn := ⟨fun _ => rfl, fun x v hv => by simp [encSn] at hv; rcases hv with rfl | rfl | rfl | rfl <;> rfl, by omega⟩
theorem staw (d w : Nat) (hd : okDom (d : Int)) : Sta d [2, 0, 0, 0, 0, w % 8] := sta_of hd (by omega)
end Go.Proofs.Ytongccpmdndcgaa.Lrn
end
/- The laws of stations: the table of contracts, what came in; the law on static stations. -/
section
set_option linter.all false
namespace Go.Proofs.Ytongccpmdndcgaa.Lrn
open Go Go.AE Go.Proofs.Ytongccpmdndcgaa.Alm Go.Proofs.Ytongccpmdndcgaa.Tab Go.Sort Go.Proofs Go.RowKit Go.ChangeShapes
set_option maxRecDepth 100000

def tableL : List (FuncId × (List Value → AHeap → Option (Value × AHeap))) := (101, sortFO 2 decA encA srtA 102) :: Try.table
theorem toldL : OrcS False Try.prog [] (orcs tableL) := .cons sort_told Try.told
theorem freeL : FreeS (orcs tableL) := { h102 := rfl, h151 := rfl, h152 := rfl, h153 := rfl, h185 := rfl, h186 := rfl, h234 := rfl, h235 := rfl, h236 := rfl, h237 := rfl, h20 := rfl, h99 := rfl, h154 := rfl, h156 := rfl, h103 := rfl, h105 := rfl, h106 := rfl, h107 := rfl, h19 := rfl, h22 := rfl, h23 := rfl, h24 := rfl, h26 := rfl, h27 := rfl, h28 := rfl, h30 := rfl, h100 := rfl, o101 := rfl, o104 := rfl, h36 := rfl, h37 := rfl, h38 := rfl, h39 := rfl, h40 := rfl, h41 := rfl, h42 := rfl, h46 := rfl, h47 := rfl, h48 := rfl, h49 := rfl, h63 := rfl, h115 := rfl, h117 := rfl, h118 := rfl, h119 := rfl, h120 := rfl, o116 := rfl, o122 := rfl, h72 := rfl, h126 := rfl, h165 := rfl, h166 := rfl, h191 := rfl, h192 := rfl, h193 := rfl, h211 := rfl, h64 := rfl, h65 := rfl, h66 := rfl, h67 := rfl, h69 := rfl, h73 := rfl, h74 := rfl, h75 := rfl, h76 := rfl, h78 := rfl, h127 := rfl, h128 := rfl, h129 := rfl, h130 := rfl, h131 := rfl, h132 := rfl, h10 := rfl, h11 := rfl, h12 := rfl, h68 := rfl, h70 := rfl, h71 := rfl, h77 := rfl, h133 := rfl }
instance : Inhabited Sn := ⟨(0, 0, 0, 0)⟩
theorem encSn_atom (x : Sn) : ∀ v ∈ encSn x, atom v = true := by intro v hv; simp [encSn] at hv; rcases hv with rfl | rfl | rfl | rfl <;> rfl
theorem c108 : Try.prog.cellsOf 108 = 4 := by kernel_rfl
theorem c5 : Try.prog.cellsOf 5 = 1 := by kernel_rfl
theorem u8_nat {n : Int} (h : (Lit.int .u8 n).wf = true) : ∃ m : Nat, n = (m : Int) ∧ m < 256 := by
  simp [Lit.wf, IntKind.min, IntKind.max, IntKind.bits, IntKind.signed] at h
  exact ⟨n.toNat, by omega, by omega⟩
section
variable {H : Type} {enc : TypeId × Value → H} {w : World} {held : Bool} {sp : Nat → Bool} {base : Nat}
theorem decSn (m : Nat) (cs : List Value) (y : DataW H × List MemPlace) (h : DataW.trod enc Try.prog w base sp held m 108 cs = some y) : ∃ z : Sn, cs = encSn z := by
  obtain ⟨ys, n, _, rfl, hl, hlen, hfl⟩ := DataW.trod_struct Try.underlying108 h
  rw [c108] at hl
  match cs, hl with
  | [u0, u1, u2, u3], _ =>
    have one : ∀ i, i < 4 → ∃ y, ys[i]? = some y := fun i hi => ⟨ys[i]'(by rw [hlen]; exact hi), List.getElem?_eq_getElem _⟩
    have g0 := hfl 0 _ rfl
    have g1 := hfl 1 _ rfl
    have g2 := hfl 2 _ rfl
    have g3 := hfl 3 _ rfl
    obtain ⟨y0, e0⟩ := one 0 (by omega)
    obtain ⟨y1, e1⟩ := one 1 (by omega)
    obtain ⟨y2, e2⟩ := one 2 (by omega)
    obtain ⟨y3, e3⟩ := one 3 (by omega)
    rw [e0] at g0
    rw [e1] at g1
    rw [e2] at g2
    rw [e3] at g3
    obtain ⟨a, a0, _, wa⟩ := DataW.trod_int Try.underlying5 g0
    obtain ⟨b, a1, _, wb⟩ := DataW.trod_int Try.underlying5 g1
    obtain ⟨c, a2, _, wc⟩ := DataW.trod_int Try.underlying5 g2
    obtain ⟨d, a3, _, wd⟩ := DataW.trod_int Try.underlying5 g3
    simp [c5] at a0 a1 a2 a3
    subst a0 a1 a2 a3
    obtain ⟨a, rfl, _⟩ := u8_nat wa
    obtain ⟨b, rfl, _⟩ := u8_nat wb
    obtain ⟨c, rfl, _⟩ := u8_nat wc
    obtain ⟨d, rfl, _⟩ := u8_nat wd
    exact ⟨(a, b, c, d), rfl⟩
end
end Go.Proofs.Ytongccpmdndcgaa.Lrn
end
