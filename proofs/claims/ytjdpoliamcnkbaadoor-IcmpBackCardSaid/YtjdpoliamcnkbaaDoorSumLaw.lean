import Derived.Test.YtjdpoliamcnkbaaDoorIcmpPut
namespace Go.Proofs.YtjdpoliamcnkbaaDoor.T
open Go.BigFrame Go.RowKit Go.Proofs.YtjdpoliamcnkbaaDoorW.PrintWords
set_option linter.unusedVariables false
set_option linter.unusedSimpArgs false

/-! sums of rows whose bytes are changed -/
theorem getD_set (xs : List Int) (k i : Nat) (v : Int) (hk : k < xs.length) : (xs.set k v).getD i 0 = if i = k then v else xs.getD i 0 := by
  simp only [List.getD_eq_getElem?_getD, List.getElem?_set]
  by_cases e : i = k
  · subst e; simp [hk]
  · have e' : ¬ k = i := fun h => e h.symm
    simp [e, e']
theorem wt_set (xs : List Int) (k : Nat) (v : Int) (hk : k < xs.length) : ∀ n, wt (xs.set k v) n = wt xs n + (if k < n then (if k % 2 = 0 then 256 * (v - xs.getD k 0) else v - xs.getD k 0) else 0)
  | 0 => by simp [wt]
  | n + 1 => by
    unfold wt
    rw [wt_set xs k v hk n, getD_set xs k n v hk]
    by_cases e : n = k
    · subst e
      rw [if_neg (Nat.lt_irrefl n), if_pos (Nat.lt_succ_self n)]
      by_cases h2 : n % 2 = 0
      · simp only [h2, if_true]; omega
      · simp only [h2, if_false, if_true]; omega
    · rw [if_neg e]
      by_cases hl : k < n
      · rw [if_pos hl, if_pos (show k < n + 1 by omega)]
        omega
      · rw [if_neg hl, if_neg (show ¬ k < n + 1 by omega)]
        omega
/-- A word set: k even. -/
theorem wt_word (xs : List Int) (k : Nat) (u v : Int) (hk : k + 1 < xs.length) (he : k % 2 = 0) : wt ((xs.set k u).set (k + 1) v) xs.length = wt xs xs.length - (256 * xs.getD k 0 + xs.getD (k + 1) 0) + (256 * u + v) := by
  rw [wt_set _ (k + 1) v (by simpa using hk), wt_set xs k u (by omega), getD_set xs k (k + 1) u (by omega), if_neg (by omega : ¬ k + 1 = k), if_pos (by omega : k + 1 < xs.length), if_pos (by omega : k < xs.length), if_neg (by omega : ¬ (k + 1) % 2 = 0), if_pos he]
  omega
theorem bytes_set {xs : List Int} (h : Bytes xs) (k : Nat) (v : Int) (h0 : 0 ≤ v) (h1 : v ≤ 255) : Bytes (xs.set k v) := by
  intro x hx
  rcases List.mem_or_eq_of_mem_set hx with h2 | rfl
  · exact h x h2
  · exact ⟨h0, h1⟩
theorem sum_zero {xs : List Int} (h : Bytes xs) : sumN xs = 0 ↔ 0 < wt xs xs.length ∧ wt xs xs.length % 65535 = 0 := by
  have := (wt_range h xs.length).1
  unfold sumN fold16
  split <;> omega
theorem sum_val {xs : List Int} (h : Bytes xs) : sumN xs = if wt xs xs.length = 0 then 65535 else 65534 - (wt xs xs.length - 1) % 65535 := by
  unfold sumN fold16
  split <;> omega
theorem putB_set (t c r0 r1 r2 r3 : Int) (xs : List Int) : putB t c r0 r1 r2 r3 xs = ((pre t c r0 r1 r2 r3 xs).set 2 (sumN (pre t c r0 r1 r2 r3 xs) / 256)).set 3 (sumN (pre t c r0 r1 r2 r3 xs) % 256) := rfl
theorem putB_bytes {t c r0 r1 r2 r3 : Int} {xs : List Int} (h : Bytes [t, c, r0, r1, r2, r3]) (k : Bytes xs) : Bytes (putB t c r0 r1 r2 r3 xs) := by
  have hp := pre_bytes h k
  have hs := sumN_range hp
  rw [putB_set]
  exact bytes_set (bytes_set hp 2 _ (by omega) (by omega)) 3 _ (by omega) (by omega)
/-- What is laid sums to nothing. -/
theorem putB_sum {t c r0 r1 r2 r3 : Int} {xs : List Int} (h : Bytes [t, c, r0, r1, r2, r3]) (k : Bytes xs) : sumN (putB t c r0 r1 r2 r3 xs) = 0 := by
  have hp := pre_bytes h k
  have hb := putB_bytes h k
  have hv := sum_val hp
  have hr := (wt_range hp (pre t c r0 r1 r2 r3 xs).length).1
  have hl : (putB t c r0 r1 r2 r3 xs).length = (pre t c r0 r1 r2 r3 xs).length := by simp [putB, pre]
  rw [sum_zero hb, hl, putB_set]
  have hw := wt_word (pre t c r0 r1 r2 r3 xs) 2 (sumN (pre t c r0 r1 r2 r3 xs) / 256) (sumN (pre t c r0 r1 r2 r3 xs) % 256) (by simp [pre]) rfl
  have e2 : (pre t c r0 r1 r2 r3 xs).getD 2 0 = 0 := rfl
  have e3 : (pre t c r0 r1 r2 r3 xs).getD (2 + 1) 0 = 0 := rfl
  rw [e2, e3] at hw
  rw [show (3 : Nat) = 2 + 1 from rfl, hw]
  generalize sumN (pre t c r0 r1 r2 r3 xs) = s at hv ⊢
  generalize wt (pre t c r0 r1 r2 r3 xs) (pre t c r0 r1 r2 r3 xs).length = W at hv hr ⊢
  split at hv <;> omega
/-- What is read as a message is laid again, but that a sum of 65535 may be 0. -/
theorem again (a0 a1 a2 a3 a4 a5 a6 a7 : Int) (ys : List Int) (hb : Bytes (a0 :: a1 :: a2 :: a3 :: a4 :: a5 :: a6 :: a7 :: ys)) (hs : sumN (a0 :: a1 :: a2 :: a3 :: a4 :: a5 :: a6 :: a7 :: ys) = 0) :
    sumN (pre a0 a1 a4 a5 a6 a7 ys) = 256 * a2 + a3 ∨ (256 * a2 + a3 = 65535 ∧ sumN (pre a0 a1 a4 a5 a6 a7 ys) = 0) := by
  have hp : Bytes (pre a0 a1 a4 a5 a6 a7 ys) := bytes_set (bytes_set hb 2 0 (by omega) (by omega)) 3 0 (by omega) (by omega)
  have b2 := hb.getD 2
  have b3 := hb.getD 3
  have e2 : (a0 :: a1 :: a2 :: a3 :: a4 :: a5 :: a6 :: a7 :: ys).getD 2 0 = a2 := rfl
  have e3 : (a0 :: a1 :: a2 :: a3 :: a4 :: a5 :: a6 :: a7 :: ys).getD (2 + 1) 0 = a3 := rfl
  have hw := wt_word (a0 :: a1 :: a2 :: a3 :: a4 :: a5 :: a6 :: a7 :: ys) 2 0 0 (by simp) rfl
  rw [e2, e3] at hw
  rw [e2] at b2
  rw [show (3 : Nat) = 2 + 1 from rfl, e3] at b3
  have hz := (sum_zero hb).1 hs
  have hv := sum_val hp
  have hl : (pre a0 a1 a4 a5 a6 a7 ys).length = (a0 :: a1 :: a2 :: a3 :: a4 :: a5 :: a6 :: a7 :: ys).length := by simp [pre]
  have hr := (wt_range hp (pre a0 a1 a4 a5 a6 a7 ys).length).1
  rw [hl] at hv hr
  have hw' : wt (pre a0 a1 a4 a5 a6 a7 ys) (a0 :: a1 :: a2 :: a3 :: a4 :: a5 :: a6 :: a7 :: ys).length = wt (a0 :: a1 :: a2 :: a3 :: a4 :: a5 :: a6 :: a7 :: ys) (a0 :: a1 :: a2 :: a3 :: a4 :: a5 :: a6 :: a7 :: ys).length - (256 * a2 + a3) + (256 * 0 + 0) := hw
  rw [hw'] at hv hr
  generalize wt (a0 :: a1 :: a2 :: a3 :: a4 :: a5 :: a6 :: a7 :: ys) (a0 :: a1 :: a2 :: a3 :: a4 :: a5 :: a6 :: a7 :: ys).length = W at hz hv hr
  rw [hv]
  split <;> omega
theorem wt_null {xs : List Int} (h : Bytes xs) : ∀ n, wt xs n = 0 → ∀ i, i < n → xs.getD i 0 = 0
  | 0, _, i, hi => absurd hi (by omega)
  | n + 1, h0, i, hi => by
    have hr := (wt_range h n).1
    have hd := (h.getD n).1
    unfold wt at h0
    have e : wt xs n = 0 ∧ xs.getD n 0 = 0 := by split at h0 <;> omega
    rcases Nat.lt_or_ge i n with hlt | hge
    · exact wt_null h n e.1 i hlt
    · obtain rfl : i = n := by omega
      exact e.2
theorem all_null {xs : List Int} (h : Bytes xs) (h0 : wt xs xs.length = 0) : xs = List.replicate xs.length 0 := by
  apply List.ext_getElem (by simp)
  intro i h1 h2
  have := wt_null h xs.length h0 i h1
  rw [List.getD_eq_getElem?_getD, List.getElem?_eq_getElem h1] at this
  simpa using this
theorem null_wt (m : Nat) : ∀ n, wt (List.replicate m 0) n = 0
  | 0 => rfl
  | n + 1 => by
    unfold wt
    rw [null_wt m n]
    have : (List.replicate m (0 : Int)).getD n 0 = 0 := by
      rw [List.getD_eq_getElem?_getD, List.getElem?_replicate]
      split <;> rfl
    rw [this]
    split <;> rfl
theorem nat_not8 (m : Nat) (h : m < 256) : 255 ^^^ m = 255 - m := by
  have e : 255 - m = 2 ^ 8 - (m + 1) := by omega
  rw [e]
  refine Nat.eq_of_testBit_eq fun i => ?_
  rw [Nat.testBit_xor, Nat.testBit_two_pow_sub_succ (by omega), show (255 : Nat) = 2 ^ 8 - 1 by decide, Nat.testBit_two_pow_sub_one]
  by_cases hi : i < 8
  · simp [hi]
  · have : m.testBit i = false := Nat.testBit_lt_two_pow (Nat.lt_of_lt_of_le h (by rw [show 256 = 2 ^ 8 by decide]; exact Nat.pow_le_pow_right (by decide) (by omega)))
    simp [hi, this]
theorem xor_same {a h : Nat} (e : a ^^^ h = a) : h = 0 := by
  have := congrArg (a ^^^ ·) e
  simpa [← Nat.xor_assoc] using this
/-- A word changed: when the row still sums to nothing. -/
theorem word_ok {bs : List Int} (hb : Bytes bs) (hs : sumN bs = 0) (k : Nat) (hk : k + 1 < bs.length) (he : k % 2 = 0) (a b h l : Nat) (ha : bs.getD k 0 = a) (hb1 : bs.getD (k + 1) 0 = b) (hh : h < 256) (hl : l < 256) :
    sumN ((bs.set k ((a ^^^ h : Nat) : Int)).set (k + 1) ((b ^^^ l : Nat) : Int)) = 0 ↔ ((h = 0 ∧ l = 0) ∨ ((h = 255 ∧ l = 255) ∧ ((a = 0 ∧ b = 0) ∨ (a = 255 ∧ b = 255)) ∧ ¬ (bs.set k ((a ^^^ h : Nat) : Int)).set (k + 1) ((b ^^^ l : Nat) : Int) = List.replicate bs.length 0)) := by
  have a8 : a < 256 := by have := hb.getD k; omega
  have b8 : b < 256 := by have := hb.getD (k + 1); omega
  have hu : a ^^^ h < 256 := Nat.xor_lt_two_pow (n := 8) a8 hh
  have hv : b ^^^ l < 256 := Nat.xor_lt_two_pow (n := 8) b8 hl
  have hys : Bytes ((bs.set k ((a ^^^ h : Nat) : Int)).set (k + 1) ((b ^^^ l : Nat) : Int)) := bytes_set (bytes_set hb k _ (by omega) (by omega)) (k + 1) _ (by omega) (by omega)
  have hw := wt_word bs k ((a ^^^ h : Nat) : Int) ((b ^^^ l : Nat) : Int) hk he
  have hl2 : ((bs.set k ((a ^^^ h : Nat) : Int)).set (k + 1) ((b ^^^ l : Nat) : Int)).length = bs.length := by simp
  have hz := (sum_zero hb).1 hs
  have hr := (wt_range hys ((bs.set k ((a ^^^ h : Nat) : Int)).set (k + 1) ((b ^^^ l : Nat) : Int)).length).1
  have hn : wt ((bs.set k ((a ^^^ h : Nat) : Int)).set (k + 1) ((b ^^^ l : Nat) : Int)) bs.length = 0 → (bs.set k ((a ^^^ h : Nat) : Int)).set (k + 1) ((b ^^^ l : Nat) : Int) = List.replicate bs.length 0 := fun h0 => by
    have := all_null hys (by rw [hl2]; exact h0)
    rw [hl2] at this; exact this
  have hn' : (bs.set k ((a ^^^ h : Nat) : Int)).set (k + 1) ((b ^^^ l : Nat) : Int) = List.replicate bs.length 0 → wt ((bs.set k ((a ^^^ h : Nat) : Int)).set (k + 1) ((b ^^^ l : Nat) : Int)) bs.length = 0 := fun h0 => by rw [h0]; exact null_wt _ _
  rw [sum_zero hys, hl2]
  rw [hl2] at hr
  rw [ha, hb1] at hw
  generalize wt ((bs.set k ((a ^^^ h : Nat) : Int)).set (k + 1) ((b ^^^ l : Nat) : Int)) bs.length = V at hw hr hn hn' ⊢
  generalize ((bs.set k ((a ^^^ h : Nat) : Int)).set (k + 1) ((b ^^^ l : Nat) : Int) = List.replicate bs.length 0) = Z at hn hn' ⊢
  generalize wt bs bs.length = W at hw hz
  constructor
  · rintro ⟨v0, v1⟩
    have key : (256 * ((a ^^^ h : Nat) : Int) + ((b ^^^ l : Nat) : Int)) = 256 * a + b ∨ ((a ^^^ h) = 255 ∧ (b ^^^ l) = 255 ∧ a = 0 ∧ b = 0) ∨ ((a ^^^ h) = 0 ∧ (b ^^^ l) = 0 ∧ a = 255 ∧ b = 255) := by omega
    rcases key with e | ⟨e1, e2, rfl, rfl⟩ | ⟨e1, e2, rfl, rfl⟩
    · left
      have e1 : a ^^^ h = a := by omega
      have e2 : b ^^^ l = b := by omega
      exact ⟨xor_same e1, xor_same e2⟩
    · rw [Nat.zero_xor] at e1 e2
      exact .inr ⟨⟨e1, e2⟩, .inl ⟨rfl, rfl⟩, fun z => by have := hn' z; omega⟩
    · rw [nat_not8 _ hh] at e1
      rw [nat_not8 _ hl] at e2
      exact .inr ⟨⟨by omega, by omega⟩, .inr ⟨rfl, rfl⟩, fun z => by have := hn' z; omega⟩
  · rintro (⟨rfl, rfl⟩ | ⟨⟨rfl, rfl⟩, (⟨rfl, rfl⟩ | ⟨rfl, rfl⟩), hz2⟩)
    · rw [Nat.xor_zero, Nat.xor_zero] at hw; omega
    · rw [Nat.zero_xor] at hw; omega
    · rw [Nat.xor_self] at hw
      have : V ≠ 0 := fun e => hz2 (hn e)
      omega
theorem str_inj {xs ys : List Int} (hx : Bytes xs) (hy : Bytes ys) (h : strOfNums xs = strOfNums ys) : xs = ys := by
  have h2 := congrArg (fun s : ByteArray => s.data.toList) h
  simp only [strOfNums_data] at h2
  have hl : xs.length = ys.length := by simpa using congrArg List.length h2
  refine List.ext_getElem hl fun i h1 h3 => ?_
  have e := congrArg (fun l : List UInt8 => l[i]?) h2
  simp only [List.getElem?_map, List.getElem?_eq_getElem h1, List.getElem?_eq_getElem h3, Option.map_some, Option.some.injEq] at e
  have e2 := congrArg UInt8.toNat e
  have b1 := hx _ (List.getElem_mem h1)
  have b2 := hy _ (List.getElem_mem h3)
  simp only [UInt8.toNat_ofNat'] at e2
  omega
end Go.Proofs.YtjdpoliamcnkbaaDoor.T
