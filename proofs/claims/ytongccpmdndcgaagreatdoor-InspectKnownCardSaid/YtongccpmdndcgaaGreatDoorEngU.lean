/- A region whose order is drawn: every order comes to what the order of the text comes to. -/
import Derived.Test.YtongccpmdndcgaaGreatDoorEngT
namespace Go.AE
set_option linter.unusedVariables false
set_option linter.unusedSimpArgs false
variable {P : Program}

theorem aop_pure {call : CallF} {o : Oper} {fr : AFr} {σ σ1 : AHeap} {v : Value} (hc : clsOf P o.op = .pure) (h : aop P call o fr σ = some (v, σ1)) : σ1 = σ ∧ ∀ σ2, aop P call o fr σ2 = some (v, σ2) := by
  obtain ⟨dst, op, ty, pos, after, guard⟩ := o
  cases op
  case move x => simp only [aop, Option.some.injEq, Prod.mk.injEq] at h ⊢; obtain ⟨rfl, rfl⟩ := h; simp
  case assign x => simp only [aop, Option.some.injEq, Prod.mk.injEq] at h ⊢; obtain ⟨rfl, rfl⟩ := h; simp
  case pick c x y => simp only [aop] at h ⊢; split at h <;> simp_all
  case build t ps => simp only [aop] at h ⊢; obtain ⟨h1, rfl⟩ := map_pair h; exact ⟨rfl, fun σ2 => by rw [h1]; rfl⟩
  case nilCheck x => simp only [aop] at h ⊢; split at h <;> simp_all
  case binOp op t x y yt => simp only [aop] at h ⊢; obtain ⟨h1, rfl⟩ := map_pair h; exact ⟨rfl, fun σ2 => by rw [h1]; rfl⟩
  case unOp op t x => simp only [aop] at h ⊢; obtain ⟨h1, rfl⟩ := map_pair h; exact ⟨rfl, fun σ2 => by rw [h1]; rfl⟩
  case makeInterface t x => simp only [aop] at h ⊢; split at h <;> simp_all
  case makeFunc fn x y => simp only [aop, Option.some.injEq, Prod.mk.injEq] at h ⊢; obtain ⟨rfl, rfl⟩ := h; simp
  case fieldAddr s x f => simp only [aop] at h ⊢; obtain ⟨h1, rfl⟩ := map_pair h; exact ⟨rfl, fun σ2 => by rw [h1]; rfl⟩
  case field s x f => simp only [aop] at h ⊢; obtain ⟨h1, rfl⟩ := map_pair h; exact ⟨rfl, fun σ2 => by rw [h1]; rfl⟩
  case indexAddr s x f => simp only [aop] at h ⊢; obtain ⟨h1, rfl⟩ := map_pair h; exact ⟨rfl, fun σ2 => by rw [h1]; rfl⟩
  case index s x f => simp only [aop] at h ⊢; obtain ⟨h1, rfl⟩ := map_pair h; exact ⟨rfl, fun σ2 => by rw [h1]; rfl⟩
  case typeAssert x xt as ok => simp only [aop] at h ⊢; obtain ⟨h1, rfl⟩ := map_pair h; exact ⟨rfl, fun σ2 => by rw [h1]; rfl⟩
  case extract t ix =>
    simp only [aop] at h ⊢
    split at h
    · obtain ⟨h1, rfl⟩ := map_pair h; exact ⟨rfl, fun σ2 => by rw [h1]; rfl⟩
    · cases h
  case sliceToArrayPointer arr x =>
    simp only [aop] at h ⊢
    split at h
    · split at h
      · split at h
        · split at h
          · rename_i hb
            cases h
            exact ⟨rfl, fun σ2 => by rfl⟩
          · cases h
        · cases h
      · cases h
    · cases h
  case convert s d x => simp only [clsOf] at hc; split at hc <;> cases hc
  case call c =>
    obtain ⟨callee, args, ats⟩ := c
    cases callee with
    | builtin b => simp only [clsOf] at hc; split at hc <;> cases hc
    | _ => simp [clsOf] at hc
  all_goals (simp [clsOf] at hc)
theorem conv_reads {src dst : TypeId} {x v : Value} {σ σ1 : AHeap} (hd : ∀ e, P.underlying dst ≠ some (.slice e)) (h : conv P src dst x σ = some (v, σ1)) : σ1 = σ := by
  unfold conv at h
  split at h
  · rename_i s d hs hdd
    split at h
    · exact (map_pair h).2
    · exact (map_pair h).2
    · split at h
      · cases h; rfl
      · rename_i e; exact absurd hdd (hd e)
      · cases h
    · split at h
      · rename_i e0 e; exact absurd hdd (hd e)
      · split at h
        · split at h
          · split at h
            · cases h; rfl
            · cases h
          · cases h
        · cases h
      · cases h
    · cases h
  · cases h
theorem aop_reads {call : CallF} {o : Oper} {fr : AFr} {σ σ1 : AHeap} {v : Value} (hc : clsOf P o.op = .reads) (h : aop P call o fr σ = some (v, σ1)) : σ1 = σ := by
  obtain ⟨dst, op, ty, pos, after, guard⟩ := o
  cases op
  case load t x =>
    simp only [aop] at h
    split at h
    · exact (map_pair h).2
    · cases h
  case lookup t x ix ok => simp only [aop] at h; exact (map_pair h).2
  case entry it => simp only [aop] at h; exact (map_pair h).2
  case slice t x lo hi mx => simp only [aop] at h; exact (map_pair h).2
  case convert s d x =>
    simp only [aop] at h
    simp only [clsOf] at hc
    split at hc
    · cases hc
    · rename_i hn; exact conv_reads (fun e q => hn e q) h
  case call c =>
    obtain ⟨callee, args, ats⟩ := c
    cases callee with
    | builtin b =>
      simp only [aop] at h
      simp only [clsOf] at hc
      generalize args.toList.map fr.eval = xs at h
      unfold builtin' at h
      split at hc
      all_goals try (cases hc; done)
      all_goals
        split at h
        all_goals first
          | contradiction
          | (cases h; done)
          | exact (map_pair h).2
          | (split at h <;> first | (cases h; rfl) | (cases h; done) | (split at h <;> first | (cases h; rfl) | (cases h; done)))
    | _ => simp [clsOf] at hc
  all_goals (simp [clsOf] at hc)
theorem sameV_eq : ∀ (n : Nat) (a b : Value), sameV n a b = true → a = b
  | 0, _, _, h => by simp [sameV] at h
  | n + 1, a, b, h => by
    have ih := sameV_eq n
    have ls : ∀ {x y : Array Value}, (x.size.beq y.size && (x.toList.zip y.toList).all fun (p, q) => sameV n p q) = true → x = y := fun {x y} e => by
      simp only [Bool.and_eq_true, beq_tf, decide_eq_true_eq] at e
      apply Array.ext e.1
      intro i h1 h2
      have := List.all_eq_true.1 e.2 (x[i], y[i]) (by
        rw [List.mem_iff_getElem?]
        exact ⟨i, by rw [List.getElem?_zip_eq_some]; simp [h1, h2]⟩)
      exact ih _ _ this
    unfold sameV at h
    split at h <;> first
      | (cases h; done)
      | rfl
      | (simp at h; subst h; rfl)
      | (simp at h; obtain ⟨rfl, rfl⟩ := h; rfl)
      | skip
    all_goals first
      | (rw [Bool.and_eq_true, Bool.and_eq_true] at h; obtain ⟨h1, h2, h3⟩ := h; rw [Nat.eq_of_beq_eq_true h1, ls h2, ls h3]; done)
      | (simp only [Bool.and_eq_true, beq_iff_eq, beq_tf, decide_eq_true_eq] at h; obtain ⟨rfl, h⟩ := h; rw [h]; done)
      | (rw [ls h]; done)
      | (simp only [beq_iff_eq] at h; rename_i x y; cases x; cases y; simp only at h; rw [Array.toList_inj.1 h]; done)
      | (simp only [Bool.and_eq_true, beq_iff_eq, beq_tf, decide_eq_true_eq] at h; obtain ⟨⟨rfl, rfl⟩, rfl⟩ := h; rfl; done)
      | (simp only [Bool.and_eq_true, beq_tf, decide_eq_true_eq] at h; obtain ⟨rfl, h⟩ := h; rw [ih _ _ h]; done)
end Go.AE
