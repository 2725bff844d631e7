import Derived.Test.YtjdpoliamcnkbaaDoorIcmpKind
import Derived.Deep.RegionLaw
import Derived.Deep.AppendLies
import Derived.Maps.AppendAt
namespace Go.Proofs.YtjdpoliamcnkbaaDoor.T
open Go.BigFrame Go.RowKit Go.Maps Go.Proofs.YtjdpoliamcnkbaaDoorW.PrintWords
set_option linter.unusedVariables false
set_option linter.unusedSimpArgs false
set_option maxRecDepth 100000

theorem infoU8 : (Tryd.prog.info? 5).map (fun i => (i.zero, i.size, i.bytes)) = some (some (.int .u8 0), 1, 1) := by kernel_rfl

set_option maxHeartbeats 1000000 in
theorem put_long (t c r0 r1 r2 r3 : Int) (A : Option Addr) (n cp : Nat) (w : World) (h : 65507 < n) (hn : n ≤ 140737488351232) :
    Calls Tryd.prog 15 #[.agg #[.int .u8 t, .int .u8 c, .int .u8 r0, .int .u8 r1, .int .u8 r2, .int .u8 r3, .slice A n cp]] w fun e w' => e = .returned (.tuple #[.slice none 0 0, .int .i64 3]) ∧ Bel w w' := by
  go_enter Tryd.func15, Tryd.ntmps15
  go_wp2
  go_ret2
  exact ⟨rfl, by repeat (first | assumption | exact Bel.refl _ | apply Bel.drewN | apply Bel.alloc)⟩

/-- The bytes ahead of the sum. -/
def pre (t c r0 r1 r2 r3 : Int) (xs : List Int) : List Int := [t, c, 0, 0, r0, r1, r2, r3] ++ xs
/-- What Put lays. -/
def putB (t c r0 r1 r2 r3 : Int) (xs : List Int) : List Int := [t, c, sumN (pre t c r0 r1 r2 r3 xs) / 256, sumN (pre t c r0 r1 r2 r3 xs) % 256, r0, r1, r2, r3] ++ xs

theorem lit4 (w : World) (x0 x1 x2 x3 : Int) : (w.alloc (.cells #[.int .u8 x0, .int .u8 x1, .int .u8 x2, .int .u8 x3] 5)).ownsRow w.heap.size 5 1 (.slice (some ⟨w.heap.size, 0, none⟩) 4 4) 4 (nums .u8 [x0, x1, x2, x3]) :=
  own_lit w w.heap.size 5 .u8 [x0, x1, x2, x3] (Nat.le_refl _) (by simp)
theorem four_at {W : World} {B k : Nat} {x0 x1 x2 x3 : Value} (h0 : W.cell? ⟨B, k, none⟩ = some x0) (h1 : W.cell? ⟨B, k + 1, none⟩ = some x1) (h2 : W.cell? ⟨B, k + 2, none⟩ = some x2) (h3 : W.cell? ⟨B, k + 3, none⟩ = some x3) :
    ∀ j u, [x0, x1, x2, x3][j]? = some u → W.cell? ((⟨B, k, none⟩ : Addr).add j) = some u := by
  intro j u hu
  have hj : j = 0 ∨ j = 1 ∨ j = 2 ∨ j = 3 := by
    have := (List.getElem?_eq_some_iff.1 hu).1
    simp at this
    omega
  rcases hj with rfl | rfl | rfl | rfl
  · simp at hu; subst hu; simpa [Addr.add] using h0
  · simp at hu; subst hu; simpa [Addr.add] using h1
  · simp at hu; subst hu; simpa [Addr.add] using h2
  · simp at hu; subst hu; simpa [Addr.add] using h3

theorem pre_bytes {t c r0 r1 r2 r3 : Int} {xs : List Int} (h : Bytes [t, c, r0, r1, r2, r3]) (k : Bytes xs) : Bytes (pre t c r0 r1 r2 r3 xs) := by
  intro x hx
  simp only [pre, List.cons_append, List.nil_append, List.mem_cons] at hx
  rcases hx with rfl | rfl | rfl | rfl | rfl | rfl | rfl | rfl | hx
  all_goals first | omega | exact k _ hx | exact h _ (by simp)
set_option maxHeartbeats 1000000 in
theorem put_ok (t c r0 r1 r2 r3 : Int) (A : Option Addr) (n cp : Nat) (xs : List Int) (w : World) (h : n ≤ 65507) (hn : n = xs.length) (hx : ReadsInt w .u8 A n xs) (hb : Bytes xs) (hp : Bytes [t, c, r0, r1, r2, r3]) :
    Calls Tryd.prog 15 #[.agg #[.int .u8 t, .int .u8 c, .int .u8 r0, .int .u8 r1, .int .u8 r2, .int .u8 r3, .slice A n cp]] w fun e w' => ∃ v, e = .returned (.tuple #[v, .int .i64 0]) ∧ w'.ownsRow w.heap.size 5 1 v (8 + n) (nums .u8 (putB t c r0 r1 r2 r3 xs)) ∧ Bel w w' := by
  have HX := Aside0.mk hx
  have HB := Aside0.mk hb
  have HP := Aside0.mk hp
  have HN := Aside0.mk hn
  clear hx hb hp hn
  go_enter Tryd.func15, Tryd.ntmps15
  go_wp2
  obtain ⟨W, hW⟩ : ∃ W, W = w.alloc (.cells #[.int .u8 t, .int .u8 c, .int .u8 r0, .int .u8 r1, .int .u8 r2, .int .u8 r3, .slice A n cp] 25) := ⟨_, rfl⟩
  have hB : Bel w W := by rw [hW]; exact (Bel.refl w).alloc _
  obtain ⟨B, hBe⟩ : ∃ B, B = w.heap.size := ⟨_, rfl⟩
  have c0 : W.cell? ⟨B, 0, none⟩ = some (.int .u8 t) := by rw [hW, hBe]; go_simp
  have c1 : W.cell? ⟨B, 1, none⟩ = some (.int .u8 c) := by rw [hW, hBe]; go_simp
  have c2 : W.cell? ⟨B, 2, none⟩ = some (.int .u8 r0) := by rw [hW, hBe]; go_simp
  have c3 : W.cell? ⟨B, 3, none⟩ = some (.int .u8 r1) := by rw [hW, hBe]; go_simp
  have c4 : W.cell? ⟨B, 4, none⟩ = some (.int .u8 r2) := by rw [hW, hBe]; go_simp
  have c5 : W.cell? ⟨B, 5, none⟩ = some (.int .u8 r3) := by rw [hW, hBe]; go_simp
  have c6 : W.cell? ⟨B, 6, none⟩ = some (.slice A n cp) := by rw [hW, hBe]; go_simp
  have hz : W.heap.size = B + 1 := by rw [hW, hBe]; simp
  rw [← hW, ← hBe]
  have HW := Aside0.mk hW
  have HBE := Aside0.mk hBe
  clear hW hBe
  have l4 := lit4 W t c 0 0
  rw [hz] at l4
  have L4 := Aside0.mk l4
  have n4 := Aside0.mk (four_at c2 c3 c4 c5)
  clear l4
  go_cut [4] (fun v4 wc => wc.ownsRow (B + 1) 5 1 v4 8 (nums .u8 [t, c, 0, 0, r0, r1, r2, r3]) ∧ Bel w wc ∧ wc.cell? ⟨B, 6, none⟩ = some (.slice A n cp) ∧ B + 1 ≤ wc.heap.size)
  case first =>
    go_region_law (first
      | (refine step_append_src (B + 1) rfl (.tmp 14) (.tmp 16) 23 5 (.int .u8 0) 1 1 rfl Tryd.underlying23 infoU8 rfl (by omega) (by omega) _ 4 (nums .u8 [t, c, 0, 0]) [.int .u8 r0, .int .u8 r1, .int .u8 r2, .int .u8 r3] ⟨B, 2, none⟩ 4 4 rfl rfl rfl ?h1 ?h2 L4.out ?h3 (by omega) ?_
         case h1 => intro j u hu; exact (Bel.alloc (Bel.refl W) _).drew.cell (n4.out j u hu)
         case h2 => intro u hu; simp at hu; rcases hu with rfl | rfl | rfl | rfl <;> rfl
         case h3 => simp; omega
         intro v1 w1 hown hg hat))
    all_goals
      have hbw : Bel W w1 := ((Bel.refl W).alloc _).drew.grown hg (fun k hk => by rw [hz]; exact own_base L4.out k hk)
      have hsz := hbw.out.size
      have c6' := hbw.cell c6
      have HOWN := Aside0.mk hown
      have HBW := Aside0.mk (hB.trans hbw)
      clear hown hg hat hbw
      go_wp2
      go_meet
      case rel => exact ⟨HOWN.out, HBW.out, c6', by omega⟩
  case rest =>
    obtain ⟨hown, hbw, c6', hsz⟩ := hcut
    have HO1 := Aside0.mk hown
    have hbw' := Aside0.mk hbw
    have HRD := Aside0.mk (hbw.reads HX.out)
    have hlen : n = xs.length := HN.out
    have HL := Aside0.mk hlen
    clear hown hbw hlen
    go_wp2_with (first
      | (at_builtin; refine print_append_row (w0 := wc) (B + 1) rfl (.tmp 18) (.tmp 20) 23 5 .u8 1 rfl Tryd.underlying23 infoU8 (by omega) _ [t, c, 0, 0, r0, r1, r2, r3] xs A n cp rfl rfl HO1.out HRD.out (Below.refl _ _) hsz ?h1 ?_
         case h1 => simp; omega
         intro v2 w2 hown2 _ hg2 _
         change w2.ownsRow (B + 1) 5 1 v2 (pre t c r0 r1 r2 r3 xs).length (nums .u8 (pre t c r0 r1 r2 r3 xs)) at hown2
         obtain ⟨L, hL⟩ : ∃ L, L = (pre t c r0 r1 r2 r3 xs).length := ⟨_, rfl⟩
         rw [← hL] at hown2
         have hL8 : L = 8 + xs.length := by rw [hL]; simp [pre]; omega
         have hL9 : 8 ≤ L := by omega
         have hLx : L ≤ 65515 := by rw [hL8, ← HL.out]; omega
         have HLE := Aside0.mk hL
         have HL8 := Aside0.mk hL8
         clear hL hL8
         obtain ⟨g, cap, rfl, hgb, hgl⟩ := hown2.form (by omega)
         have hb2 : Bel w w2 := hbw'.out.grown hg2 (fun k hk => by have := own_base HO1.out k hk; have := HBE.out; omega)
         have e2 := own_at hown2 2 (by omega) (by omega)
         have e3 := own_at hown2 3 (by omega) (by omega)
         obtain ⟨d2, f2⟩ := e2
         obtain ⟨d3, f3⟩ := e3
         change w2.cell? ⟨g, 2, none⟩ = _ at d2
         change w2.cell? ⟨g, 3, none⟩ = _ at d3
         change w2.frozen? ⟨g, 2, none⟩ = _ at f2
         change w2.frozen? ⟨g, 3, none⟩ = _ at f3
         generalize rd (pre t c r0 r1 r2 r3 xs) 2 = z2 at d2
         generalize rd (pre t c r0 r1 r2 r3 xs) 3 = z3 at d3
         have HO2 := Aside0.mk hown2
         have HB2 := Aside0.mk hb2
         have hpre : Bytes (pre t c r0 r1 r2 r3 xs) := pre_bytes HP.out HB.out
         have hrd : ReadsInt w2 .u8 (some ⟨g, 0, none⟩) L (pre t c r0 r1 r2 r3 xs) := by
           obtain ⟨A', c', e', h'⟩ := own_reads hown2
           cases e'
           exact h'
         have hsr := sumN_range hpre
         obtain ⟨s0, s1⟩ := hsr
         have hsum := sum_any (pre t c r0 r1 r2 r3 xs) (some ⟨g, 0, none⟩) L cap w2 HLE.out hpre hrd (by omega)
         obtain ⟨sm, hsm⟩ : ∃ sm, sm = sumN (pre t c r0 r1 r2 r3 xs) := ⟨_, rfl⟩
         rw [← hsm] at s0 s1 hsum
         have HSM := Aside0.mk hsm
         have HSUM := Aside0.mk hsum
         clear hown2 hg2 hb2 hpre hrd hsum hsm)
      | (go_at_call 26; (with_reducible refine HSUM.out.mono ?_); rintro e w' ⟨rfl, rfl⟩))
    go_ret2
    refine ⟨_, rfl, ?_, ?_⟩
    · obtain ⟨o1, q1⟩ := own_store HO2.out 2 (sm / 256)
      obtain ⟨o2, q2⟩ := own_store o1 3 (sm % 256)
      have e : ((pre t c r0 r1 r2 r3 xs).set (2 : Int).toNat (sm / 256)).set (3 : Int).toNat (sm % 256) = putB t c r0 r1 r2 r3 xs := by rw [HSM.out]; rfl
      rw [e] at o2
      have e2 : 8 + n = L := by rw [HL8.out, HL.out]
      rw [e2]
      exact own_weaken o2 (by rw [← HBE.out]; omega)
    · obtain ⟨o1, q1⟩ := own_store HO2.out 2 (sm / 256)
      obtain ⟨o2, q2⟩ := own_store o1 3 (sm % 256)
      have hg : w.heap.size ≤ g := by rw [← HBE.out]; omega
      exact (HB2.out.grown q1 (fun k hk => by cases hk; exact hg)).grown q2 (fun k hk => by cases hk; exact hg)
end Go.Proofs.YtjdpoliamcnkbaaDoor.T
