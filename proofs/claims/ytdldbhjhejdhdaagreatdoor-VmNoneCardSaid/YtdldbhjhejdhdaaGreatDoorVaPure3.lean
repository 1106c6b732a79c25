/- The abstract evaluator: operations that look at no memory: all of them. -/
import Derived.Test.YtdldbhjhejdhdaaGreatDoorVaPure2
set_option linter.unusedVariables false
set_option linter.unusedSimpArgs false
namespace Go.Va

section
variable {P : Program} {w : World} {c : Ctx}

theorem equal_false {t : TypeId} {u v : Value} (h : ∀ d, (Op.equalIn (d + 1) t u v).run P w = .ok false w) (hu : match u, v with | .nilIface, _ | .agg _, _ | .int .., _ | .float .., _ | .complex .., _ | .string _, _ => False | _, _ => True) (X Y : Operand) :
    (do eqGuard .eql t X Y u v; binOp .eql t u v : Sem Value).run P w = .ok (.bool false) w ∧ (do eqGuard .neq t X Y u v; binOp .neq t u v : Sem Value).run P w = .ok (.bool true) w := by
  have h' : (Op.equal t u v).run P w = .ok false w := h 9999
  cases u <;> first
    | exact hu.elim
    | (constructor <;> cases v <;> simp [eqGuard, binOp, h'])

theorem nilCmp_sound {t : TypeId} {x y : AV} {u v : Value} {b : Bool} (h : aNilCmp P t x y = some b) (hx : Rep w c x u) (hy : Rep w c y v) (X Y : Operand) :
    b = false ∧ (do eqGuard .eql t X Y u v; binOp .eql t u v : Sem Value).run P w = .ok (.bool false) w ∧ (do eqGuard .neq t X Y u v; binOp .neq t u v : Sem Value).run P w = .ok (.bool true) w := by
  unfold aNilCmp at h
  cases he : aNilEq x y with
  | none => simp [he] at h
  | some bb =>
    rw [he] at h
    simp only at h
    have hbb : bb = false := by
      unfold aNilEq at he
      split at he <;> simp at he <;> exact he
    subst hbb
    have hk : nilKind P t = 1 ∨ nilKind P t = 2 ∨ nilKind P t = 3 := by
      split at h <;> simp_all
    have hb : b = false := by
      split at h <;> first | (cases h; done) | (simp at h; exact h)
    refine ⟨hb, ?_⟩
    unfold nilKind at hk h
    unfold aNilEq at he
    cases hu : P.underlying t with
    | none => simp [hu] at hk
    | some d =>
      rw [hu] at h
      split at he <;> simp at he
      all_goals
        simp only [Rep] at hx hy
        first
          | (obtain ⟨_, rfl⟩ := hx; subst hy)
          | (obtain ⟨_, rfl, _⟩ := hx; subst hy)
          | (obtain ⟨_, _, rfl, _⟩ := hx; subst hy)
          | (obtain ⟨_, rfl⟩ := hy; subst hx)
          | (obtain ⟨_, rfl, _⟩ := hy; subst hx)
          | (obtain ⟨_, _, rfl, _⟩ := hy; subst hx)
        refine equal_false (fun k => ?_) trivial X Y
        cases d <;> simp at h <;> simp [Op.equalIn, Sem.run_bind, run_underlying hu]

def Yields (P : Program) (w : World) (o : Oper) (ρ : Operand → Value) (Q : Value → Prop) : Prop := ∃ u, (execOp ρ o).run P w = .ok (.value u) w ∧ Q u

theorem aPure_sound {o : Oper} {ev : Operand → AV} {x : AV} {ρ : Operand → Value} (h : aPure P o ev = some x) (hops : ∀ y ∈ o.op.operands, Rep w c (ev y) (ρ y)) :
    ∃ u, (execOp ρ o).run P w = .ok (.value u) w ∧ Rep w c x u := by
  have hgen : ∀ x, aGeneric P o ev = some x → ∃ u, (execOp ρ o).run P w = .ok (.value u) w ∧ Rep w c x u := fun x h => aGeneric_sound h hops
  obtain ⟨dst, op, type, pos, after, guard⟩ := o
  unfold aPure at h
  simp only at h hops
  split at h
  case h_1 y =>
    simp only [Option.some.injEq] at h
    subst h
    exact ⟨ρ y, by simp [execOp], hops y (by simp [Op.operands])⟩
  case h_2 y =>
    simp only [Option.some.injEq] at h
    subst h
    exact ⟨ρ y, by simp [execOp], hops y (by simp [Op.operands])⟩
  case h_3 cc a b =>
    have hc := hops cc (by simp [Op.operands])
    split at h
    · rename_i t ht
      rw [ht] at hc
      simp only [Rep] at hc
      simp only [Option.some.injEq] at h
      subst h
      cases t
      · exact ⟨ρ b, by simp [execOp, hc, asBool], hops b (by simp [Op.operands])⟩
      · exact ⟨ρ a, by simp [execOp, hc, asBool], hops a (by simp [Op.operands])⟩
    · cases h
  case h_4 t parts =>
    obtain ⟨u, h1, h2⟩ := build_sound (w := w) (c := c) (ρ := ρ) h (by simpa [Op.operands] using hops)
    refine ⟨u, ?_, h2⟩
    simp only [execOp, Sem.run_bind, h1, Result.andThen_ok, Sem.run_pure]
  case h_5 s y f =>
    obtain ⟨u, h1, h2⟩ := field_sound (w := w) h (hops y (by simp [Op.operands]))
    exact ⟨u, by simp only [execOp, Sem.run_bind, h1, Result.andThen_ok, Sem.run_pure], h2⟩
  case h_6 s y f =>
    obtain ⟨u, h1, h2⟩ := fieldAddr_sound (w := w) h (hops y (by simp [Op.operands]))
    exact ⟨u, by simp only [execOp, Sem.run_bind, h1, Result.andThen_ok, Sem.run_pure], h2⟩
  case h_7 t y i =>
    obtain ⟨u, h1, h2⟩ := indexAddr_sound (w := w) h (hops y (by simp [Op.operands])) (hops i (by simp [Op.operands]))
    exact ⟨u, by simp only [execOp, Sem.run_bind, h1, Result.andThen_ok, Sem.run_pure], h2⟩
  case h_8 t y i =>
    split at h
    · rename_i r hr
      simp only [Option.some.injEq] at h
      subst h
      obtain ⟨u, h1, h2⟩ := index_sound (w := w) hr (hops y (by simp [Op.operands])) (hops i (by simp [Op.operands]))
      exact ⟨u, by simp only [execOp, Sem.run_bind, h1, Result.andThen_ok, Sem.run_pure], h2⟩
    · exact hgen _ h
  case h_9 y i =>
    split at h
    · rename_i vs hn
      obtain ⟨u, h1, h2⟩ := extract_sound (P := P) (w := w) hn h (hops y (by simp [Op.operands]))
      exact ⟨u, by simp only [execOp, Sem.run_bind, h1, Result.andThen_ok, Sem.run_pure], h2⟩
    · cases h
  case h_10 y =>
    have hy := hops y (by simp [Op.operands])
    split at h
    · rename_i r off he
      rw [he] at hy
      simp only [Option.some.injEq] at h
      subst h
      obtain ⟨h1, h2⟩ := hy
      exact ⟨ρ y, by simp [execOp, h2], ⟨h1, h2⟩⟩
    · rename_i row he
      rw [he] at hy
      simp only [Option.some.injEq] at h
      subst h
      obtain ⟨ad, h1, h2⟩ := hy
      exact ⟨ρ y, by simp [execOp, h1], ⟨ad, h1, h2⟩⟩
    · rename_i f a b he
      rw [he] at hy
      simp only [Option.some.injEq] at h
      subst h
      obtain ⟨a', b', h1, h2⟩ := hy
      exact ⟨ρ y, by simp [execOp, h1], ⟨a', b', h1, h2⟩⟩
    · cases h
  case h_11 t y =>
    have hy := hops y (by simp [Op.operands])
    split at h
    · cases h
    · cases h
    · rename_i hni hnn
      simp only [Option.some.injEq] at h
      subst h
      cases hu : P.underlying t with
      | none => exact absurd hu hnn
      | some d =>
        refine ⟨.iface t (ρ y), ?_, ⟨_, rfl, hy⟩⟩
        simp only [execOp, Sem.run_bind]
        unfold Instr.makeInterface
        simp only [Sem.run_bind, run_underlying hu, Result.andThen_ok]
        cases d with
        | interface m => exact absurd hu (hni m)
        | _ => rfl
  case h_12 fn first captured =>
    simp only [Option.some.injEq] at h
    subst h
    refine ⟨.func fn (first.map ρ) (captured.map ρ), by simp [execOp, Instr.makeFunc], ⟨_, _, rfl, ?_, ?_⟩⟩
    · rw [Array.toList_map]
      exact RepL.map _ fun z hz => hops z (by simp [Op.operands]; exact .inl (Array.mem_toList_iff.1 hz))
    · rw [Array.toList_map]
      exact RepL.map _ fun z hz => hops z (by simp [Op.operands]; exact .inr (Array.mem_toList_iff.1 hz))
  case h_13 t y lo hi mx =>
    split at h
    · rename_i r hr
      simp only [Option.some.injEq] at h
      subst h
      obtain ⟨u, h1, h2⟩ := slice_sound (w := w) (c := c) (lo' := lo.map ρ) (hi' := hi.map ρ) (mx' := mx.map ρ) hr (hops y (by simp [Op.operands]))
        (RepO.map fun z hz => hops z (by simp [Op.operands, hz])) (RepO.map fun z hz => hops z (by simp [Op.operands, hz])) (RepO.map fun z hz => hops z (by simp [Op.operands, hz]))
      exact ⟨u, by simp only [execOp, Sem.run_bind, h1, Result.andThen_ok, Sem.run_pure], h2⟩
    · exact hgen _ h
  case h_14 bop t a b yt =>
    have ha := hops a (by simp [Op.operands])
    have hb := hops b (by simp [Op.operands])
    split at h
    · split at h
      · rename_i bb hbb
        simp only [Option.some.injEq] at h
        subst h
        obtain ⟨rfl, h1, h2⟩ := nilCmp_sound hbb ha hb a b
        exact ⟨.bool false, by simp only [execOp]; rw [Sem.run_bind, h1]; rfl, rfl⟩
      · exact hgen _ h
    · split at h
      · rename_i bb hbb
        simp only [Option.some.injEq] at h
        subst h
        obtain ⟨rfl, h1, h2⟩ := nilCmp_sound hbb ha hb a b
        exact ⟨.bool true, by simp only [execOp]; rw [Sem.run_bind, h2]; rfl, rfl⟩
      · exact hgen _ h
    · exact hgen _ h
  case h_15 b args argTypes =>
    split at h
    · rename_i y t ha ht
      have e1 : args = #[y] := by rw [← Array.toArray_toList (xs := args), ha]
      have e2 : argTypes = #[t] := by rw [← Array.toArray_toList (xs := argTypes), ht]
      subst e1 e2
      have hy := hops y (by simp [Op.operands, Call.operands])
      split at h
      · rename_i e r off sz len cap hu he
        simp only [Option.some.injEq] at h
        subst h
        rw [he] at hy
        obtain ⟨_, k, h1, _⟩ := hy
        exact ⟨goInt len, by simp [execOp, resolve, invoke, builtin, Builtin.len_, Sem.run_bind, run_underlying hu, h1], rfl⟩
      · rename_i e row len cap hu he
        simp only [Option.some.injEq] at h
        subst h
        rw [he] at hy
        obtain ⟨_, k, h1, _⟩ := hy
        exact ⟨goInt len, by simp [execOp, resolve, invoke, builtin, Builtin.len_, Sem.run_bind, run_underlying hu, h1], rfl⟩
      · rename_i a hu
        split at h
        · rename_i n e hu2
          simp only [Option.some.injEq] at h
          subst h
          refine ⟨goInt n, ?_, rfl⟩
          simp [execOp, resolve, invoke, builtin, Builtin.len_, Sem.run_bind, run_underlying hu, run_underlying hu2]
        · cases h
      · exact hgen _ h
    · rename_i y t ha ht
      have e1 : args = #[y] := by rw [← Array.toArray_toList (xs := args), ha]
      have e2 : argTypes = #[t] := by rw [← Array.toArray_toList (xs := argTypes), ht]
      subst e1 e2
      have hy := hops y (by simp [Op.operands, Call.operands])
      split at h
      · rename_i e r off sz len cap hu he
        simp only [Option.some.injEq] at h
        subst h
        rw [he] at hy
        obtain ⟨_, k, h1, h2, _⟩ := hy
        refine ⟨goInt cap, ?_, rfl⟩
        simp [execOp, resolve, invoke, builtin, Builtin.cap_, Sem.run_bind, run_underlying hu, h1, h2.1]
      · rename_i e row len cap hu he
        simp only [Option.some.injEq] at h
        subst h
        rw [he] at hy
        obtain ⟨_, k, h1, h2, _⟩ := hy
        refine ⟨goInt cap, ?_, rfl⟩
        simp [execOp, resolve, invoke, builtin, Builtin.cap_, Sem.run_bind, run_underlying hu, h1, h2.1]
      · exact hgen _ h
    · exact hgen _ h
    · exact hgen _ h
    · cases h
  case h_16 => exact hgen _ h
  case h_17 => exact hgen _ h
  case h_18 => cases h

end
end Go.Va
