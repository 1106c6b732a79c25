/- The abstract evaluator: operations that look at no memory come to what the model comes to. -/
import Derived.Test.YtdldbhjhejdhdaaGreatDoorVaRel
set_option linter.unusedVariables false
set_option linter.unusedSimpArgs false
namespace Go.Va

section
variable {P : Program} {w : World} {c : Ctx}

theorem pureRun_run {α : Type} : ∀ (s : Sem α) (a : α), pureRun P s = some a → ∀ w, s.run P w = .ok a w := by
  intro s
  induction s with
  | pure b => intro a h w; simp only [pureRun, Option.some.injEq] at h; simp [Sem.run, h]
  | program k ih => intro a h w; simp only [pureRun] at h; simp only [Sem.run]; exact ih P a h w
  | _ => intro a h; simp [pureRun] at h

theorem run_typeInfo {t : TypeId} {i : TypeInfo} (h : P.info? t = some i) : (typeInfo t).run P w = .ok i w := by
  unfold typeInfo
  simp [Sem.run_bind, h]

theorem run_sizeOf {t : TypeId} {n : Nat} (h : size? P t = some n) : (sizeOf t).run P w = .ok n w := by
  unfold size? at h
  simp only [Option.map_eq_some_iff] at h
  obtain ⟨i, hi, rfl⟩ := h
  unfold sizeOf
  simp [Sem.run_bind, run_typeInfo hi]

theorem run_underlying {t : TypeId} {d : TypeDesc} (h : P.underlying t = some d) : (underlying t).run P w = .ok d w := by
  unfold underlying
  simp [Sem.run_bind, h]

theorem run_zeroValue {t : TypeId} {z : List AV} (h : zeroCells? P t = some z) : ∃ v, (zeroValue t).run P w = .ok v w ∧ z = v.cells.toList.map .v := by
  unfold zeroCells? at h
  split at h
  · rename_i i hi
    split at h
    · rename_i v hv
      simp only [Option.some.injEq] at h
      exact ⟨v, by unfold zeroValue; simp [Sem.run_bind, run_typeInfo hi, hv], h.symm⟩
    · cases h
  · cases h

theorem run_isAgg {t : TypeId} {b : Bool} (h : isAgg? P t = some b) : (isAgg t).run P w = .ok b w := by
  unfold isAgg? at h
  cases hu : P.underlying t with
  | none => simp [hu] at h
  | some d =>
    rw [hu] at h
    unfold isAgg
    rw [Sem.run_bind, run_underlying hu]
    cases d <;> simp_all

theorem aGeneric_sound {o : Oper} {ev : Operand → AV} {x : AV} {ρ : Operand → Value} (h : aGeneric P o ev = some x) (hops : ∀ y ∈ o.op.operands, Rep w c (ev y) (ρ y)) :
    ∃ u, (execOp ρ o).run P w = .ok (.value u) w ∧ Rep w c x u := by
  unfold aGeneric at h
  cases hb : (o.op.operands.all (fun x => ((ev x).val?).isSome) && notSelect o.op) with
  | false => simp [hb] at h
  | true =>
    rw [hb] at h
    simp only [cond_true] at h
    rw [Bool.and_eq_true] at hb
    obtain ⟨hb1, hb2⟩ := hb
    split at h
    · rename_i u hu
      simp only [Option.some.injEq] at h
      subst h
      refine ⟨u, ?_, Rep.norm (by simp [Rep])⟩
      have hc : execOp ρ o = execOp (valOf ev) o := by
        refine execOp_congr o (fun cs b e => by rw [e] at hb2; simp [notSelect] at hb2) fun y hy => ?_
        have h1 := Array.all_eq_true'.1 hb1 y hy
        cases hv : (ev y).val? with
        | none => simp [hv] at h1
        | some v =>
          rw [Rep.val _ _ _ (hops y hy) hv]
          simp [valOf, hv]
      rw [hc]
      exact pureRun_run _ _ hu w
    · cases h

/-! ### Parts -/

theorem part_sound {t : TypeId} {cs : List AV} {cs' : Array Value} {off : Nat} {x : AV} (h : aPart P t cs off = some x) (hr : RepL w c cs cs'.toList) :
    ∃ u, (part t cs' off).run P w = .ok u w ∧ Rep w c x u := by
  unfold aPart at h
  split at h
  · rename_i n hn ha
    simp only [Option.some.injEq] at h
    subst h
    refine ⟨.agg (cs'.extract off (off + n)), by unfold part; simp [Sem.run_bind, run_isAgg ha, run_sizeOf hn], ⟨_, rfl, ?_⟩⟩
    have := (hr.drop off).take n
    simpa using this
  · rename_i n hn ha
    obtain ⟨u, h1, h2⟩ := hr.get h
    have h3 : cs'[off]? = some u := by simpa using h1
    exact ⟨u, by unfold part; simp [Sem.run_bind, run_isAgg ha, h3], h2⟩
  · cases h

theorem splice_rep {cs vs : List AV} {l m : List Value} {off : Nat} (h : RepL w c cs l) (h' : RepL w c vs m) : RepL w c (splice cs off vs) (l.take off ++ m ++ l.drop (off + m.length)) := by
  unfold splice
  rw [h'.length]
  exact ((h.take off).append h').append (h.drop _)

theorem foldl_set (m : List Value) : ∀ (l : Array Value) (off j : Nat), off + j + m.length ≤ l.size →
    ((m.zipIdx j).foldl (fun cs (p : Value × Nat) => cs.setIfInBounds (off + p.2) p.1) l).toList = l.toList.take (off + j) ++ m ++ l.toList.drop (off + j + m.length) := by
  induction m with
  | nil => intro l off j h; simp
  | cons x m ih =>
    intro l off j h
    simp only [List.zipIdx_cons, List.foldl_cons]
    simp only [List.length_cons] at h
    rw [ih _ off (j + 1) (by simp; omega)]
    have e1 : off + (j + 1) = off + j + 1 := by omega
    rw [e1]
    have hlt : off + j < l.toList.length := by simp; omega
    simp only [Array.toList_setIfInBounds]
    rw [List.take_set, List.drop_set_of_lt (by omega)]
    have : (l.toList.take (off + j + 1)).set (off + j) x = l.toList.take (off + j) ++ [x] := by
      rw [List.take_succ_eq_append_getElem hlt]
      rw [List.set_append_right _ _ (by simp; omega)]
      simp [List.length_take]
      have : off + j - min (off + j) l.size = 0 := by simp at hlt; omega
      rw [this]; simp
    rw [this]
    simp only [List.length_cons, List.append_assoc, List.singleton_append]
    have e2 : off + j + 1 + m.length = off + j + (m.length + 1) := by omega
    rw [e2]

theorem fill_sound {place : Nat → Option (Nat × Nat)} : ∀ {parts : List (Nat × AV)} {parts' : List (Nat × Value)} {cells : List AV} {cells' : Array Value} {res : List AV},
    aFill place cells parts = some res → (parts.length = parts'.length ∧ ∀ (k : Nat) (p : Nat × AV) (p' : Nat × Value), parts[k]? = some p → parts'[k]? = some p' → p.1 = p'.1 ∧ Rep w c p.2 p'.2) → RepL w c cells cells'.toList →
    ∃ r, Instr.fill place cells' parts' = some r ∧ RepL w c res r.toList
  | [], parts', cells, cells', res, h, hp, hr => by
    cases parts' with
    | nil => simp only [aFill, Option.some.injEq] at h; subst h; exact ⟨cells', rfl, hr⟩
    | cons p ps => simp at hp
  | (i, x) :: rest, parts', cells, cells', res, h, hp, hr => by
    cases parts' with
    | nil => simp at hp
    | cons p ps =>
      obtain ⟨i', u⟩ := p
      have h0 := hp.2 0 (i, x) (i', u) rfl rfl
      obtain ⟨rfl, hx⟩ := h0
      simp only [aFill] at h
      split at h
      · rename_i off size cs hpl hcs
        have hc := hx.cells hcs
        cases hb : (Nat.beq cs.length size && Nat.ble (off + cs.length) cells.length) with
        | false => simp [hb] at h
        | true =>
          rw [hb] at h
          simp only [cond_true] at h
          rw [Bool.and_eq_true] at hb
          have hb1 := Nat.eq_of_beq_eq_true hb.1
          have hb2 := Nat.le_of_ble_eq_true hb.2
          have hl := hc.length
          have hl2 := hr.length
          have hsz : u.cells.size = cs.length := by simpa using hl
          have hsz2 : cells'.size = cells.length := by simpa using hl2
          have hset := foldl_set u.cells.toList cells' off 0 (by simp; omega)
          simp only [Nat.add_zero] at hset
          have hrep : RepL w c (splice cells off cs) ((u.cells.zipIdx.foldl (fun cs (p : Value × Nat) => cs.setIfInBounds (off + p.2) p.1) cells').toList) := by
            have e : (u.cells.zipIdx.foldl (fun cs (p : Value × Nat) => cs.setIfInBounds (off + p.2) p.1) cells').toList = cells'.toList.take off ++ u.cells.toList ++ cells'.toList.drop (off + u.cells.toList.length) := by
              rw [← hset]
              rw [← Array.foldl_toList]
              simp
            rw [e]
            exact splice_rep hr hc
          obtain ⟨r, h1, h2⟩ := fill_sound (parts := rest) (parts' := ps) h ⟨by simpa using hp.1, fun k p p' hk hk' => hp.2 (k + 1) p p' (by simpa using hk) (by simpa using hk')⟩ hrep
          refine ⟨r, ?_, h2⟩
          simp only [Instr.fill, hpl]
          rw [if_neg (by simp; omega)]
          exact h1
      · cases h

theorem parts_ok {ev : Operand → AV} {ρ : Operand → Value} {parts : Array (Nat × Operand)} (hops : ∀ y ∈ (parts.toList.map (·.2)).toArray, Rep w c (ev y) (ρ y)) :
    (parts.toList.map fun p => (p.1, ev p.2)).length = (parts.map fun (p : Nat × Operand) => (p.1, ρ p.2)).toList.length ∧
    ∀ (k : Nat) (p : Nat × AV) (p' : Nat × Value), (parts.toList.map fun p => (p.1, ev p.2))[k]? = some p → (parts.map fun (p : Nat × Operand) => (p.1, ρ p.2)).toList[k]? = some p' → p.1 = p'.1 ∧ Rep w c p.2 p'.2 := by
  refine ⟨by simp, fun k p p' hk hk' => ?_⟩
  simp only [Array.toList_map, List.getElem?_map, Option.map_eq_some_iff] at hk hk'
  obtain ⟨q, hq, rfl⟩ := hk
  obtain ⟨q', hq', rfl⟩ := hk'
  rw [hq] at hq'
  cases hq'
  exact ⟨rfl, hops _ (by simp; exact ⟨q.1, Array.mem_toList_iff.1 (List.mem_of_getElem? hq)⟩)⟩

theorem mapM_list {fs : List Field} {l : List (Nat × Nat)} (h : fs.mapM (fun f => (size? P f.type).map fun n => (f.offset, n)) = some l) :
    (fs.mapM (fun f => (do pure (f.offset, ← sizeOf f.type) : Sem (Nat × Nat)))).run P w = .ok l w := by
  induction fs generalizing l with
  | nil => simp at h; subst h; rfl
  | cons f fs ih =>
    simp only [List.mapM_cons, Option.bind_eq_bind, Option.bind_eq_some_iff, Option.map_eq_some_iff, Option.pure_def, Option.some.injEq] at h
    obtain ⟨x, ⟨n, hn, rfl⟩, xs, hxs, rfl⟩ := h
    simp only [List.mapM_cons, Sem.run_bind, run_sizeOf hn, Result.andThen_ok, Sem.run_pure, ih hxs]

theorem build_sound {t : TypeId} {ev : Operand → AV} {ρ : Operand → Value} {parts : Array (Nat × Operand)} {x : AV} (h : aBuild P t (parts.toList.map fun p => (p.1, ev p.2)) = some x)
    (hops : ∀ y ∈ (parts.toList.map (·.2)).toArray, Rep w c (ev y) (ρ y)) :
    ∃ u, (Instr.build t (parts.map fun p => (p.1, ρ p.2))).run P w = .ok u w ∧ Rep w c x u := by
  unfold aBuild at h
  split at h
  · rename_i z fields hz hu
    split at h
    · rename_i places hpl
      simp only [Option.map_eq_some_iff] at h
      obtain ⟨res, hf, rfl⟩ := h
      obtain ⟨v, hv, rfl⟩ := run_zeroValue (w := w) hz
      obtain ⟨r, h1, h2⟩ := fill_sound (w := w) (c := c) (cells' := v.cells) hf (parts_ok hops) (RepL.vs _)
      refine ⟨.agg r, ?_, ⟨r, rfl, h2⟩⟩
      unfold fieldPlaces at hpl
      have hm := mapM_list (w := w) hpl
      unfold Instr.build
      simp only [Sem.run_bind, hv, Result.andThen_ok, run_underlying hu]
      have hm2 : (fields.mapM (fun f => (do pure (f.offset, ← sizeOf f.type) : Sem (Nat × Nat)))).run P w = .ok places.toArray w := by
        rw [Array.mapM_eq_mapM_toList]
        simp only [Sem.run_map, hm, Result.andThen_ok]
      rw [hm2]
      simp only [Result.andThen_ok]
      have e : (fun i : Nat => places.toArray[i]?) = (fun i : Nat => places[i]?) := by funext i; simp
      rw [e, h1]
      rfl
    · cases h
  · rename_i z len elem hz hu
    split at h
    · rename_i size hs
      simp only [Option.map_eq_some_iff] at h
      obtain ⟨res, hf, rfl⟩ := h
      obtain ⟨v, hv, rfl⟩ := run_zeroValue (w := w) hz
      obtain ⟨r, h1, h2⟩ := fill_sound (w := w) (c := c) (cells' := v.cells) hf (parts_ok hops) (RepL.vs _)
      refine ⟨.agg r, ?_, ⟨r, rfl, h2⟩⟩
      unfold Instr.build
      simp only [Sem.run_bind, hv, Result.andThen_ok, run_underlying hu, run_sizeOf hs, h1]
      rfl
    · cases h
  · cases h

end
end Go.Va
