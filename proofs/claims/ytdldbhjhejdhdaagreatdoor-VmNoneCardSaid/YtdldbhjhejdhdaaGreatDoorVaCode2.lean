/- The abstract evaluator: code. -/
import Derived.Test.YtdldbhjhejdhdaaGreatDoorVaDraw4
set_option linter.unusedVariables false
set_option linter.unusedSimpArgs false
namespace Go.Va

section
variable {P : Program} {w : World} {c : Ctx}

theorem region_sound {call : Caller} (hm : P.follows .mixedOrders = true) (hcall : CallerOk P call) {ops : Array Oper} {id : Nat} {draw : Bool} {Q : Exit → Act → World → Prop} {tmps tmps' : Env} {H H' : Heap} {n n' : Nat} {a : Act} (h : aRegion P call ops draw tmps H n = some (tmps', H', n'))
    (ht : ERel w c tmps a) (hH : HRel w c H) (hn : ∀ r, c.dom r → r < n)
    (hQ : ∀ a' w' c', a'.defers = a.defers → ERel w' c' tmps' a' → Mv w c H n w' c' H' n' → Q .normal a' w') : (Code.region id ops draw).wp P Q a w := by
  unfold aRegion at h
  cases draw with
  | true => exact region_draw hm hcall (by simpa using h) ht hH hn hQ
  | false => exact region_plain hcall (by simpa using h) ht hH hn hQ

theorem exec_sound {cfg : Cfg} (hm : P.follows .mixedOrders = true) (hn0 : NamesOk P) (hs : SigOk P cfg) : ∀ k, ExecOk P (aExec P cfg k) ∧
    ∀ body s r s', aExec P cfg k (.loop body) s = some (r, s') → ∀ (a : Act) (w : World) (c : Ctx) (Q : Exit → Act → World → Prop), ERel w c s.tmps a → HRel w c s.H → (∀ r, c.dom r → r < s.n) →
      (∀ a' w' c', a'.defers = a.defers → ERel w' c' s'.tmps a' → Mv w c s.H s.n w' c' s'.H s'.n → Q r.toExit a' w') → Code.rounds P body Q k a w := by
  intro k
  induction k with
  | zero => exact ⟨fun code s r s' h => by simp [aExec] at h, fun body s r s' h => by simp [aExec] at h⟩
  | succ k ih =>
    have hcall : CallerOk P (aCallOf P cfg (aExec P cfg k)) := caller_sound hn0 hs ih.1
    have hloop : ∀ body s r s', aExec P cfg (k + 1) (.loop body) s = some (r, s') → ∀ (a : Act) (w : World) (c : Ctx) (Q : Exit → Act → World → Prop), ERel w c s.tmps a → HRel w c s.H → (∀ r, c.dom r → r < s.n) →
        (∀ a' w' c', a'.defers = a.defers → ERel w' c' s'.tmps a' → Mv w c s.H s.n w' c' s'.H s'.n → Q r.toExit a' w') → Code.rounds P body Q (k + 1) a w := by
      intro body s r s' h a w c Q ht hH hn hQ
      rw [rounds_succ]
      simp only [aExec] at h
      split at h
      · rename_i s1 h1
        refine ih.1 _ _ _ _ h1 a w c _ ht hH hn fun a1 w1 c1 hd ht1 hM1 => ?_
        exact ih.2 _ _ _ _ h a1 w1 c1 Q ht1 hM1.rel hM1.lt fun a' w' c' hd' ht' hM' => hQ a' w' c' (hd'.trans hd) ht' (hM1.trans hH hM')
      · rename_i hne
        refine ih.1 _ _ _ _ h a w c _ ht hH hn fun a1 w1 c1 hd ht1 hM1 => ?_
        have hq := hQ a1 w1 c1 hd ht1 hM1
        cases r with
        | normal => exact absurd h (hne s')
        | exit id => exact hq
        | ret => exact hq
    refine ⟨fun code s r s' h a w c Q ht hH hn hQ => ?_, hloop⟩
    cases code with
    | skip =>
      simp only [aExec, Option.some.injEq, Prod.mk.injEq] at h
      obtain ⟨rfl, rfl⟩ := h
      exact wp_skip (hQ a w c rfl ht (Mv.refl hH hn))
    | region id ops draw =>
      simp only [aExec] at h
      split at h
      · rename_i tmps H n h1
        simp only [Option.some.injEq, Prod.mk.injEq] at h
        obtain ⟨rfl, rfl⟩ := h
        exact region_sound hm hcall h1 ht hH hn hQ
      · cases h
    | seq x y =>
      simp only [aExec] at h
      split at h
      · rename_i s1 h1
        refine wp_seq (ih.1 _ _ _ _ h1 a w c _ ht hH hn fun a1 w1 c1 hd ht1 hM1 => ?_)
        exact ih.1 _ _ _ _ h a1 w1 c1 Q ht1 hM1.rel hM1.lt fun a' w' c' hd' ht' hM' => hQ a' w' c' (hd'.trans hd) ht' (hM1.trans hH hM')
      · rename_i hne
        refine wp_seq (ih.1 _ _ _ _ h a w c _ ht hH hn fun a1 w1 c1 hd ht1 hM1 => ?_)
        have hq := hQ a1 w1 c1 hd ht1 hM1
        cases r with
        | normal => exact absurd h (hne s')
        | exit id => exact hq
        | ret => exact hq
    | cond cc x y =>
      simp only [aExec] at h
      split at h
      · rename_i t hc
        have he := eval_sound ht cc
        rw [hc] at he
        simp only [Rep] at he
        refine wp_cond he ?_
        cases t
        · exact ih.1 _ _ _ _ h a w c Q ht hH hn hQ
        · exact ih.1 _ _ _ _ h a w c Q ht hH hn hQ
      · cases h
    | block id body =>
      simp only [aExec] at h
      split at h
      · rename_i i s1 h1
        refine wp_block (ih.1 _ _ _ _ h1 a w c _ ht hH hn fun a1 w1 c1 hd ht1 hM1 => ?_)
        simp only [AX.toExit, Exit.inBlock]
        cases hb : Nat.beq i id with
        | true =>
          rw [hb] at h
          simp only [cond_true, Option.some.injEq, Prod.mk.injEq] at h
          obtain ⟨rfl, rfl⟩ := h
          rw [if_pos (Nat.eq_of_beq_eq_true hb)]
          exact hQ a1 w1 c1 hd ht1 hM1
        | false =>
          rw [hb] at h
          simp only [cond_false, Option.some.injEq, Prod.mk.injEq] at h
          obtain ⟨rfl, rfl⟩ := h
          rw [if_neg (beq_ne hb)]
          exact hQ a1 w1 c1 hd ht1 hM1
      · rename_i hne
        refine wp_block (ih.1 _ _ _ _ h a w c _ ht hH hn fun a1 w1 c1 hd ht1 hM1 => ?_)
        have hq := hQ a1 w1 c1 hd ht1 hM1
        cases r with
        | normal => exact hq
        | exit i => exact absurd h (hne i s')
        | ret => exact hq
    | loop body => exact wp_loop_rounds (k + 1) (hloop body s r s' h a w c Q ht hH hn hQ)
    | exit id =>
      simp only [aExec, Option.some.injEq, Prod.mk.injEq] at h
      obtain ⟨rfl, rfl⟩ := h
      exact wp_exit (hQ a w c rfl ht (Mv.refl hH hn))
    | ret =>
      simp only [aExec, Option.some.injEq, Prod.mk.injEq] at h
      obtain ⟨rfl, rfl⟩ := h
      exact wp_ret (hQ a w c rfl ht (Mv.refl hH hn))
    | rangeFunc f ps as body => simp [aExec] at h
    | scope b => simp [aExec] at h
    | label l => simp [aExec] at h
    | goto l => simp [aExec] at h
    | refuse s => simp [aExec] at h

/-- **What the abstract evaluator answers of a call is what the call comes to.** -/
theorem aCall_sound {cfg : Cfg} (hm : P.follows .mixedOrders = true) (hn0 : NamesOk P) (hs : SigOk P cfg) (k : Nat) : CallerOk P (aCall P cfg k) := caller_sound hn0 hs (exec_sound hm hn0 hs k).1

end
end Go.Va
