/- The abstract evaluator: blocks that stand by. -/
import Derived.Test.YtdldbhjhejdhdaaGreatDoorVaDraw
set_option linter.unusedVariables false
set_option linter.unusedSimpArgs false
namespace Go.Va

section
variable {w : World} {c : Ctx}

theorem HRel.part {J C : Heap} (hJ : HRel w c J) (X : Nat → Option Blk) (h1 : ∀ r b, X r = some b → hget J r = some b ∧ hget C r = none) (h2 : ∀ r, X r = none → hget J r = hget C r) : HRel w c C := by
  have key : ∀ r b, hget C r = some b → hget J r = some b := fun r b hb => by
    cases hX : X r with
    | none => rw [h2 r hX]; exact hb
    | some b' => rw [(h1 r b' hX).2] at hb; cases hb
  exact ⟨fun r b hb => hJ.live r b (key r b hb), fun r s b b' hr hs e => hJ.inj r s b b' (key r b hr) (key s b' hs) e, hJ.own⟩

theorem Mv.frame {w' : World} {c' : Ctx} {J C C' J' : Heap} {n n' : Nat} (hJ : HRel w c J) (X : Nat → Option Blk) (h1 : ∀ r b, X r = some b → hget J r = some b ∧ hget C r = none) (h2 : ∀ r, X r = none → hget J r = hget C r)
    (m : Mv w c C n w' c' C' n') (h3 : ∀ r, hget J' r = (X r).or (hget C' r)) : Mv w c J n w' c' J' n' := by
  have key : ∀ r b, hget C r = some b → hget J r = some b := fun r b hb => by
    cases hX : X r with
    | none => rw [h2 r hX]; exact hb
    | some b' => rw [(h1 r b' hX).2] at hb; cases hb
  have hX : ∀ r b, X r = some b → c.dom r ∧ c.own (c.ρ r) ∧ c'.ρ r = c.ρ r ∧ c.ρ r < w.heap.size ∧ ∀ s k, hget C s = some k → c.ρ s ≠ c.ρ r := fun r b hb => by
    obtain ⟨g1, g2⟩ := h1 r b hb
    obtain ⟨l1, l2, _⟩ := hJ.live r b g1
    refine ⟨l1, l2, m.ext.rho r l1, hJ.own _ l2, fun s k hs e => ?_⟩
    have := hJ.inj s r k b (key s k hs) g1 e
    subst this
    rw [g2] at hs; cases hs
  have cross : ∀ r s b b', X r = some b → X s = none → hget C' s = some b' → c'.ρ r ≠ c'.ρ s := fun r s b b' hr hs hb e => by
    obtain ⟨d1, d2, d3, d4, d5⟩ := hX r b hr
    obtain ⟨q, k, hq, he⟩ := m.img s b' hb (by rw [← e, d3]; exact d4)
    exact d5 q k hq (by rw [he, ← e, d3])
  refine ⟨m.ext, fun b hb hl => m.keep b hb fun r k hr => hl r k (key r k hr), fun b hb hl => m.priv b hb fun r k hr => hl r k (key r k hr), fun r k hr hlt => ?_, ⟨fun r b hb => ?_, fun r s b b' hr hs e => ?_, m.rel.own⟩, m.le, m.fresh⟩
  · rw [h3] at hr
    cases hx : X r with
    | none =>
      rw [hx, Option.none_or] at hr
      obtain ⟨s, k', g1, g2⟩ := m.img r k hr hlt
      exact ⟨s, k', key s k' g1, g2⟩
    | some b => exact ⟨r, b, (h1 r b hx).1, (hX r b hx).2.2.1.symm⟩
  · rw [h3] at hb
    cases hx : X r with
    | none => rw [hx, Option.none_or] at hb; exact m.rel.live r b hb
    | some b0 =>
      rw [hx, Option.some_or] at hb
      cases hb
      obtain ⟨d1, d2, d3, d4, d5⟩ := hX r _ hx
      obtain ⟨_, _, cs', fz, g3, g4, l1, l2, g5, g6⟩ := hJ.live r _ (h1 r _ hx).1
      refine ⟨m.ext.dom r d1, by rw [d3]; exact m.priv _ d2 d5, cs', fz, by rw [d3, m.keep _ d4 d5]; exact g3, g4, l1, l2, g5, RepL.mono m.ext _ _ g6⟩
  · rw [h3] at hr hs
    cases hx : X r with
    | none =>
      rw [hx, Option.none_or] at hr
      cases hy : X s with
      | none => rw [hy, Option.none_or] at hs; exact m.rel.inj r s b b' hr hs e
      | some b1 => exact absurd e.symm (cross s r b1 b hy hx hr)
    | some b0 =>
      cases hy : X s with
      | none => rw [hy, Option.none_or] at hs; exact absurd e (cross r s b0 b' hx hy hs)
      | some b1 =>
        have a1 := hX r b0 hx
        have a2 := hX s b1 hy
        exact hJ.inj r s b0 b1 (h1 r _ hx).1 (h1 s _ hy).1 (by rw [← a1.2.2.1, ← a2.2.2.1]; exact e)

theorem Mv.trans2 {w1 w2 : World} {c1 c2 : Ctx} {H H1 H2 : Heap} {n n1 m n2 : Nat} (hw : HRel w c H) (h : Mv w c H n w1 c1 H1 n1) (k : Mv w1 c1 H1 m w2 c2 H2 n2) (hm : n ≤ m) (hn : n ≤ n2) : Mv w c H n w2 c2 H2 n2 := by
  have h' : Mv w c H n w1 c1 H1 n1 := h
  have hnot : ∀ b, b < w.heap.size → (∀ r k, hget H r = some k → c.ρ r ≠ b) → ∀ r k, hget H1 r = some k → c1.ρ r ≠ b := fun b hb hl r k' hr e => by
    obtain ⟨s, k'', h1, h2⟩ := h.img r k' hr (by omega)
    exact hl s k'' h1 (h2.trans e)
  refine ⟨h.ext.trans k.ext, fun b hb hl => ?_, fun b hb hl => ?_, fun r k' hr hlt => ?_, k.rel, hn, fun r hr => ⟨(k.fresh r hr).1, ?_⟩⟩
  · exact (k.keep b (Nat.lt_of_lt_of_le hb h.ext.size) (hnot b hb hl)).trans (h.keep b hb hl)
  · exact k.priv b (h.priv b hb hl) (hnot b (hw.own b hb) hl)
  · obtain ⟨s, k'', h1, h2⟩ := k.img r k' hr (Nat.lt_of_lt_of_le hlt h.ext.size)
    obtain ⟨s', k3, h3, h4⟩ := h.img s k'' h1 (by omega)
    exact ⟨s', k3, h3, h4.trans h2⟩
  · rcases (k.fresh r hr).2 with h1 | h1
    · exact (h.fresh r h1).2
    · exact .inr (Nat.le_trans hm h1)

theorem Mv.alloc2 {J : Heap} (hJ : HRel w c J) {n m r : Nat} (hnd : ¬ c.dom r) (hlt : ∀ s, c.dom s → s < m) (hr : n ≤ r) (hm : r < m) {cs' : Array Value} {blk : Blk} (hc : ∃ l1 l2, cs'.toList = l1 ++ l2 ∧ RepL w c blk.cs l1) :
    Mv w c J n (w.alloc (.cells cs' blk.t)) (c.new r w.heap.size) (hput J r blk) m := by
  refine ⟨Ext.alloc hJ hnd, fun b hb _ => heap_alloc_old hb, fun b hb _ => .inr hb, fun s k hs hlt => ?_, HRel.alloc hJ hnd hc, by omega, fun s hs => ?_⟩
  · rw [hget_hput] at hs
    split at hs
    · rename_i e; subst e; simp [Ctx.new] at hlt
    · rename_i e; exact ⟨s, k, hs, by simp [Ctx.new, e]⟩
  · rcases hs with rfl | hs
    · exact ⟨hm, .inr hr⟩
    · exact ⟨hlt s hs, .inl hs⟩

end

/-! ### Temporaries -/

theorem aPut_N (E : Env) (dst : Option Tmp) (x : AV) : (aPut E dst x).N = E.N := by
  cases dst with
  | none => rfl
  | some d => simp only [aPut]; cases Nat.blt d E.N <;> rfl

theorem aPut_other {E : Env} {dst : Option Tmp} {x : AV} {t : Nat} (h : dst ≠ some t) : (aPut E dst x).get t = E.get t := by
  cases dst with
  | none => rfl
  | some d =>
    simp only [aPut]
    cases Nat.blt d E.N with
    | false => rfl
    | true =>
      simp only [cond_true, Env.get]
      rw [(T.get_set E.t d t x).1 (fun e => h (by rw [e]))]

theorem put_other {a : Act} {dst : Option Tmp} {u : Value} {t : Nat} (h : dst ≠ some t) : (a.put dst u).tmps.getD t undef = a.tmps.getD t undef := by
  cases dst with
  | none => rfl
  | some d =>
    have hne : d ≠ t := fun e => h (by rw [e])
    simp [Act.put, Array.getD_eq_getD_getElem?, Array.getElem?_setIfInBounds_ne hne]

theorem put_rep {w : World} {c : Ctx} {E : Env} {a : Act} {x : AV} {u : Value} {t : Nat} (hs : a.tmps.size = E.N) (hx : Rep w c x u) : Rep w c ((aPut E (some t) x).get t) ((a.put (some t) u).tmps.getD t undef) := by
  simp only [aPut]
  cases hb : Nat.blt t E.N with
  | false =>
    have hge : ¬ t < E.N := fun h => by rw [blt_iff.2 h] at hb; cases hb
    simp only [cond_false, Env.get, hb]
    have e : (a.put (some t) u).tmps.getD t undef = undef := by
      simp [Act.put, Array.getD, Array.size_setIfInBounds, hs, hge]
    rw [e]
    exact Rep.undef
  | true =>
    have hlt := blt_iff.1 hb
    simp only [cond_true, Env.get, hb]
    have e : (a.put (some t) u).tmps.getD t undef = u := by
      simp [Act.put, Array.getD, Array.size_setIfInBounds, hs, hlt]
    rw [e]
    rcases (T.get_set E.t t t x).2 with h1 | h1
    · rw [h1]; exact hx
    · rw [h1]; trivial

theorem erel_of {w : World} {c : Ctx} {E : Env} {a : Act} (hs : a.tmps.size = E.N) (h : ∀ t, Rep w c (E.get t) (a.tmps.getD t undef)) : ERel w c E a := by
  refine ⟨hs, fun i u hu => ?_⟩
  obtain ⟨hlt, hu'⟩ := Array.getElem?_eq_some_iff.1 hu
  have := h i
  unfold Env.get at this
  rw [blt_iff.2 (by rw [← hs]; exact hlt), cond_true] at this
  rw [Array.getD_eq_getD_getElem?, hu] at this
  exact this

/-! ### A step of the canonical run -/

section
variable (P : Program) (call : Caller) (ops : Array Oper) (B : List Nat) (n0 : Nat)

inductive Step (j : Nat) (o : Oper) (d : DS) : DS → Prop
  | skip : aWanted ops o d.tmps = some false → Step j o d { d with tmps := aPut d.tmps o.dst undefA }
  | load (t : TypeId) (a : Operand) (v : AV) : aWanted ops o d.tmps = some true → isL o.op = true → o.op = .load t a → aLoad P t (aev d.tmps a) d.C = some v → loadBack P B j t (aev d.tmps a) v d.done d.hist = true →
      Step j o d { d with tmps := aPut d.tmps o.dst v, loads := (j, t, aev d.tmps a, v) :: d.loads }
  | alloc (bx : Blk × AV) : aWanted ops o d.tmps = some true → isL o.op = false → isA o.op = true → aAlloc P o.op (aev d.tmps) (n0 + j) = some bx →
      Step j o d { d with tmps := aPut d.tmps o.dst bx.2, pend := (j, n0 + j, bx.1) :: d.pend }
  | eff (x : AV) (H : Heap) (n : Nat) : aWanted ops o d.tmps = some true → isL o.op = false → isA o.op = false → isE o.op = true → (∀ p ∈ d.pend, bit B j p.1 = true) →
      aEff P call o.op (aev d.tmps) (commit d.C d.pend) d.n = some (x, H, n) → (∀ l ∈ d.loads, bit B j l.1 = true ∨ loadIs P l.2.1 l.2.2.1 l.2.2.2 H = true) →
      Step j o d { tmps := aPut d.tmps o.dst x, C := H, n := n, pend := [], done := j :: d.done, hist := H :: d.hist, loads := d.loads }
  | pure (x : AV) : aWanted ops o d.tmps = some true → isL o.op = false → isA o.op = false → isE o.op = false → aPure P o (aev d.tmps) = some x → Step j o d { d with tmps := aPut d.tmps o.dst x }

variable {P call ops B n0}

theorem step_cases {j : Nat} {d d' : DS} (h : dStep P call ops B n0 j d = some d') : ∃ o, ops[j]? = some o ∧ Step P call ops B n0 j o d d' := by
  unfold dStep at h
  split at h
  · cases h
  · rename_i o ho
    refine ⟨o, ho, ?_⟩
    split at h
    · cases h
    · rename_i hw
      simp only [Option.some.injEq] at h
      subst h
      exact .skip hw
    · rename_i hw
      split at h
      · rename_i hL
        split at h
        · rename_i t a hop
          split at h
          · rename_i v hv
            cases hb : loadBack P B j t (aev d.tmps a) v d.done d.hist with
            | true =>
              rw [hb, cond_true] at h
              simp only [Option.some.injEq] at h
              subst h
              exact .load t a v hw hL hop hv hb
            | false => rw [hb, cond_false] at h; cases h
          · cases h
        · cases h
      · rename_i hA hL
        have hL' : isL o.op = false := by cases hb : isL o.op; rfl; exact absurd hb hL
        split at h
        · rename_i bx hbx
          simp only [Option.some.injEq] at h
          subst h
          exact .alloc bx hw hL' hA hbx
        · cases h
      · rename_i hE hL hA
        have hL' : isL o.op = false := by cases hb : isL o.op; rfl; exact absurd hb hL
        have hA' : isA o.op = false := by cases hb : isA o.op; rfl; exact absurd hb hA
        cases hp : d.pend.all fun p => bit B j p.1 with
        | false => rw [hp, cond_false] at h; cases h
        | true =>
          rw [hp, cond_true] at h
          split at h
          · rename_i x H n hx
            cases hl : d.loads.all fun l => bit B j l.1 || loadIs P l.2.1 l.2.2.1 l.2.2.2 H with
            | false => rw [hl, cond_false] at h; cases h
            | true =>
              rw [hl, cond_true] at h
              simp only [Option.some.injEq] at h
              subst h
              rw [List.all_eq_true] at hp hl
              exact .eff x H n hw hL' hA' hE hp hx fun l hl' => by simpa using hl l hl'
          · cases h
      · rename_i hL hA hE
        have hL' : isL o.op = false := by cases hb : isL o.op; rfl; exact absurd hb hL
        have hA' : isA o.op = false := by cases hb : isA o.op; rfl; exact absurd hb hA
        have hE' : isE o.op = false := by cases hb : isE o.op; rfl; exact absurd hb hE
        split at h
        · rename_i x hx
          simp only [Option.some.injEq] at h
          subst h
          exact .pure x hw hL' hA' hE' hx
        · cases h

theorem dRun_append : ∀ (l1 l2 : List Nat) (d d' : DS), dRun P call ops B n0 (l1 ++ l2) d = some d' → ∃ d1, dRun P call ops B n0 l1 d = some d1 ∧ dRun P call ops B n0 l2 d1 = some d'
  | [], l2, d, d', h => ⟨d, rfl, h⟩
  | j :: l1, l2, d, d', h => by
    simp only [List.cons_append, dRun] at h ⊢
    split at h
    · exact dRun_append l1 l2 _ d' h
    · cases h

theorem dRun_cons {j : Nat} {l : List Nat} {d d' : DS} (h : dRun P call ops B n0 (j :: l) d = some d') : ∃ d1, dStep P call ops B n0 j d = some d1 ∧ dRun P call ops B n0 l d1 = some d' := by
  simp only [dRun] at h
  split at h
  · rename_i d1 h1; exact ⟨d1, h1, h⟩
  · cases h

theorem dRun_two {l1 l2 : List Nat} {d d1 d' : DS} (h : dRun P call ops B n0 l1 d = some d1) (k : dRun P call ops B n0 l2 d1 = some d') : dRun P call ops B n0 (l1 ++ l2) d = some d' := by
  induction l1 generalizing d with
  | nil => simp only [dRun, Option.some.injEq] at h; subst h; exact k
  | cons j l1 ih =>
    obtain ⟨d2, h1, h2⟩ := dRun_cons h
    simp only [List.cons_append, dRun, h1]
    exact ih h2

theorem Step.tmps {j : Nat} {o : Oper} {d d' : DS} (h : Step P call ops B n0 j o d d') : ∃ x, d'.tmps = aPut d.tmps o.dst x := by
  cases h <;> exact ⟨_, rfl⟩

theorem dRun_tmps : ∀ (l : List Nat) (d d' : DS), dRun P call ops B n0 l d = some d' → d'.tmps.N = d.tmps.N ∧ ∀ t, (∀ i ∈ l, ∀ o, ops[i]? = some o → o.dst ≠ some t) → d'.tmps.get t = d.tmps.get t
  | [], d, d', h => by simp only [dRun, Option.some.injEq] at h; subst h; exact ⟨rfl, fun _ _ => rfl⟩
  | j :: l, d, d', h => by
    obtain ⟨d1, h1, h2⟩ := dRun_cons h
    obtain ⟨o, ho, hs⟩ := step_cases h1
    obtain ⟨x, hx⟩ := hs.tmps
    obtain ⟨g1, g2⟩ := dRun_tmps l d1 d' h2
    refine ⟨by rw [g1, hx, aPut_N], fun t ht => ?_⟩
    rw [g2 t fun i hi => ht i (List.mem_cons_of_mem _ hi), hx, aPut_other (ht j (by simp) o ho)]

/-- The heap ahead stands first among the heaps. -/
theorem dRun_hist : ∀ (l : List Nat) (d d' : DS), dRun P call ops B n0 l d = some d' → (∃ tl, d.hist = d.C :: tl) → ∃ tl, d'.hist = d'.C :: tl
  | [], d, d', h, hd => by simp only [dRun, Option.some.injEq] at h; subst h; exact hd
  | j :: l, d, d', h, hd => by
    obtain ⟨d1, h1, h2⟩ := dRun_cons h
    obtain ⟨o, ho, hs⟩ := step_cases h1
    refine dRun_hist l d1 d' h2 ?_
    cases hs <;> first | exact hd | exact ⟨_, rfl⟩

theorem loadBack_app {j : Nat} {t : TypeId} {a v : AV} {done : List Nat} {tl : List Heap} {C : Heap} : ∀ (es : List Nat) (hs : List Heap), hs.length = es.length → (∀ e ∈ es, bit B j e = false) → loadBack P B j t a v (es ++ done) (hs ++ C :: tl) = true → loadIs P t a v C = true
  | [], [], _, _, h => by
    cases done with
    | nil => simpa [loadBack] using h
    | cons e done => simp only [List.nil_append, loadBack, Bool.and_eq_true] at h; exact h.1
  | [], _ :: _, hl, _, _ => by simp at hl
  | _ :: _, [], hl, _, _ => by simp at hl
  | e :: es, H :: hs, hl, he, h => by
    simp only [List.cons_append, loadBack, Bool.and_eq_true, Bool.or_eq_true] at h
    have h1 := he e (by simp)
    rw [h1] at h
    exact loadBack_app es hs (by simpa using hl) (fun x hx => he x (List.mem_cons_of_mem _ hx)) (h.2.resolve_left (by simp))

theorem hget_commit (C : Heap) (blkOf : Nat → Option Blk) : ∀ (p : List (Nat × Nat × Blk)), (∀ k id b, (k, id, b) ∈ p → id = n0 + k ∧ blkOf k = some b) → ∀ r,
    hget (commit C p) r = (if n0 ≤ r ∧ r - n0 ∈ p.map (·.1) then blkOf (r - n0) else none).or (hget C r)
  | [], h, r => by show hget C r = _; simp
  | (k, id, b) :: p, h, r => by
    obtain ⟨h1, h2⟩ := h k id b (by simp)
    have ih := hget_commit C blkOf p (fun k id b hm => h k id b (List.mem_cons_of_mem _ hm)) r
    have e : commit C ((k, id, b) :: p) = hput (commit C p) id b := rfl
    rw [e, hget_hput, ih]
    subst h1
    by_cases hr : r = n0 + k
    · subst hr
      simp [h2]
    · have hk : ¬ (n0 ≤ r ∧ r - n0 = k) := fun ⟨h1, h2⟩ => hr (by omega)
      rw [if_neg hr]
      have hiff : (n0 ≤ r ∧ r - n0 ∈ p.map (·.1)) ↔ (n0 ≤ r ∧ r - n0 ∈ ((k, n0 + k, b) :: p).map (·.1)) :=
        ⟨fun ⟨a1, a2⟩ => ⟨a1, List.mem_cons_of_mem _ a2⟩, fun ⟨a1, a2⟩ => ⟨a1, (List.mem_cons.1 a2).resolve_left fun e => hk ⟨a1, e⟩⟩⟩
      by_cases hc : n0 ≤ r ∧ r - n0 ∈ p.map (·.1)
      · rw [if_pos hc, if_pos (hiff.1 hc)]
      · rw [if_neg hc, if_neg fun h => hc (hiff.2 h)]

end
end Go.Va
