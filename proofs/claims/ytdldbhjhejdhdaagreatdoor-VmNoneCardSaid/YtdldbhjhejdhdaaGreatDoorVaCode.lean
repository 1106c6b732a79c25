/- The abstract evaluator: results, code, calls. -/
import Derived.Test.YtdldbhjhejdhdaaGreatDoorVaOp
set_option linter.unusedVariables false
set_option linter.unusedSimpArgs false
namespace Go.Va

section
variable {P : Program} {w : World} {c : Ctx}

/-! ### What is told read-only -/

/-- The rows from number n0 on are let go: nobody writes to them any more. -/
def Ctx.below (c : Ctx) (H : Heap) (n0 : Nat) : Ctx := { c with own := fun b => c.own b ∧ ∀ r k, hget H r = some k → c.ρ r = b → r < n0 }

theorem Ext.below {H : Heap} {n0 : Nat} : Ext w c w (c.below H n0) := ⟨rfl, rfl, rfl, Nat.le_refl _, fun _ h => h, fun _ _ => rfl, fun _ _ => rfl, fun _ _ _ => rfl, fun _ _ h h' => h h'.1⟩

theorem HRel.below {H : Heap} (hH : HRel w c H) {n0 : Nat} : HRel w (c.below H n0) (hlow H n0) where
  live r b hr := by
    rw [hget_hlow] at hr
    split at hr
    · rename_i hlt
      obtain ⟨h1, h2, cs', fz, h3, h4, l1, l2, h5, h6⟩ := hH.live r b hr
      exact ⟨h1, ⟨h2, fun s k hs e => by rw [hH.inj s r k b hs hr e]; exact hlt⟩, cs', fz, h3, h4, l1, l2, h5, RepL.mono Ext.below _ _ h6⟩
    · cases hr
  inj r s b b' hr hs e := by
    rw [hget_hlow] at hr hs
    split at hr
    · split at hs
      · exact hH.inj r s b b' hr hs e
      · cases hs
    · cases hr
  own x hx := hH.own x hx.1

theorem Mv.below {w' : World} {c' : Ctx} {H H' : Heap} {n n' n0 : Nat} (hw : HRel w c H) (h : Mv w c H n w' c' H' n') : Mv w c H n w' (c'.below H' n0) (hlow H' n0) n' where
  ext := h.ext.trans Ext.below
  keep := h.keep
  priv b hb hl := ⟨h.priv b hb hl, fun r k hr e => by
    obtain ⟨s, k', h1, h2⟩ := h.img r k hr (by rw [e]; exact hw.own b hb)
    exact absurd (h2.trans e) (hl s k' h1)⟩
  img r k hr hlt := by
    rw [hget_hlow] at hr
    split at hr
    · exact h.img r k hr hlt
    · cases hr
  rel := h.rel.below
  le := h.le
  fresh := h.fresh

theorem row_of_cells : ∀ {cs : List AV} {vs : List Value} {ad : Addr}, RepL w c cs vs → CellsAt w ad vs → ¬ c.own ad.block → RepRow w c cs ad
  | [], vs, ad, _, _, _ => by simp [RepRow]
  | x :: cs, vs, ad, h, hc, ho => by
    obtain ⟨u, us, rfl, h1, h2⟩ := h
    refine ⟨⟨u, by simpa [Addr.add] using hc 0 u rfl, h1⟩, ho, row_of_cells h2 (fun j y hj => ?_) ho⟩
    have := hc (j + 1) y (by simpa using hj)
    have e : Addr.add ⟨ad.block, ad.off + 1, none⟩ j = ad.add (j + 1) := by
      unfold Addr.add
      by_cases hn : j = 0
      · subst hn; simp
      · rw [if_neg hn, if_neg (by omega)]
        simp; omega
    rw [e]
    exact this

theorem freeze_sound {H : Heap} {n0 : Nat} (hH : HRel w c H) : ∀ f : Nat,
    (∀ x y u, freeze H n0 f x = some y → Rep w c x u → Rep w (c.below H n0) y u) ∧ (∀ xs ys l, freezes H n0 f xs = some ys → RepL w c xs l → RepL w (c.below H n0) ys l) := by
  intro f
  induction f with
  | zero => exact ⟨fun x y u h => by simp [freeze] at h, fun xs ys l h => by simp [freezes] at h⟩
  | succ f ih =>
    have hE : Ext w c w (c.below H n0) := Ext.below
    refine ⟨fun x y u h hx => ?_, fun xs ys l h hx => ?_⟩
    · cases x with
      | slice r off sz len cap =>
        simp only [freeze] at h
        cases hb : Nat.blt r n0 with
        | true =>
          rw [hb] at h
          simp only [cond_true, Option.some.injEq] at h
          subst h
          exact Rep.mono hE _ _ hx
        | false =>
          rw [hb] at h
          simp only [cond_false] at h
          split at h
          · rename_i b hget'
            cases hle : Nat.ble (off + len * sz) b.cs.length with
            | false => simp [hle] at h
            | true =>
              rw [hle] at h
              simp only [cond_true] at h
              split at h
              · rename_i cs hcs
                simp only [Option.some.injEq] at h
                subst h
                obtain ⟨hd, k, rfl, hcap, _⟩ := hx
                obtain ⟨ad, vs, h1, h2, h3⟩ := at_sound (a := .ptr r off) (cs := b.cs.drop off) (by simp [at?, hget']) ⟨hd, rfl⟩ hH
                simp only [Value.pointer.injEq, Option.some.injEq] at h1
                subst h1
                have h4 := ih.2 _ _ _ hcs (h2.take (len * sz))
                refine ⟨⟨c.ρ r, off, none⟩, k, rfl, ?_, row_of_cells h4 (h3.take _) fun ho => ?_⟩
                · have := cap_le hcap
                  show len ≤ k
                  omega
                · have := ho.2 r b hget' rfl
                  have hlt : ¬ r < n0 := fun h => by
                    have : Nat.blt r n0 = true := Nat.ble_eq_true_of_le h
                    rw [this] at hb; cases hb
                  exact hlt this
              · cases h
          · cases h
      | ptr r off =>
        simp only [freeze] at h
        cases hb : Nat.blt r n0 with
        | true =>
          rw [hb] at h
          simp only [cond_true, Option.some.injEq] at h
          subst h
          exact Rep.mono hE _ _ hx
        | false => simp [hb] at h
      | agg cs =>
        simp only [freeze, Option.map_eq_some_iff] at h
        obtain ⟨ys, h1, rfl⟩ := h
        obtain ⟨cs', rfl, h2⟩ := hx
        exact ⟨cs', rfl, ih.2 _ _ _ h1 h2⟩
      | tuple cs =>
        simp only [freeze, Option.map_eq_some_iff] at h
        obtain ⟨ys, h1, rfl⟩ := h
        obtain ⟨cs', rfl, h2⟩ := hx
        exact ⟨cs', rfl, ih.2 _ _ _ h1 h2⟩
      | iface t z =>
        simp only [freeze, Option.map_eq_some_iff] at h
        obtain ⟨ys, h1, rfl⟩ := h
        obtain ⟨v, rfl, h2⟩ := hx
        exact ⟨v, rfl, ih.1 _ _ _ h1 h2⟩
      | _ =>
        simp only [freeze, Option.some.injEq] at h
        subst h
        exact Rep.mono hE _ _ hx
    · cases xs with
      | nil =>
        simp only [freezes, Option.some.injEq] at h
        subst h
        exact RepL.mono hE _ _ hx
      | cons x xs =>
        simp only [freezes] at h
        split at h
        · rename_i y ys h1 h2
          simp only [Option.some.injEq] at h
          subst h
          obtain ⟨u, us, rfl, h3, h4⟩ := hx
          exact ⟨u, us, rfl, ih.1 _ _ _ h1 h3, ih.2 _ _ _ h2 h4⟩
        · cases h

/-! ### Results -/

/-- One result variable's value. -/
def resOf (tmps : Array Value) (r : ResultVar) : Sem Value :=
  match r with
  | .tmp t => Pure.pure (tmps.getD t undef)
  | .cell b t => do loadVar t (← asAddr (tmps.getD b undef))

theorem results_sound {H : Heap} {tmps : Env} {a : Act} (hH : HRel w c H) (ht : ERel w c tmps a) : ∀ (rs : List ResultVar) (xs : List AV), aResultsL P H tmps rs = some xs →
    ∃ vs : List Value, (rs.mapM (resOf a.tmps)).run P w = .ok vs w ∧ RepL w c xs vs
  | [], xs, h => by
    simp only [aResultsL, Option.some.injEq] at h
    subst h
    exact ⟨[], rfl, by simp [RepL]⟩
  | r :: rs, xs, h => by
    simp only [aResultsL] at h
    split at h
    · rename_i y ys h1 h2
      simp only [Option.some.injEq] at h
      subst h
      obtain ⟨vs, h3, h4⟩ := results_sound hH ht rs ys h2
      have key : ∃ v, (resOf a.tmps r).run P w = .ok v w ∧ Rep w c y v := by
        cases r with
        | tmp t =>
          simp only [aResult, Option.some.injEq] at h1
          subst h1
          exact ⟨_, rfl, eval_sound ht (.tmp t)⟩
        | cell b t =>
          simp only [aResult, aLoad] at h1
          split at h1
          · rename_i cs hcs
            obtain ⟨ad, us, h5, h6, h7⟩ := at_sound hcs (eval_sound ht (.tmp b)) hH
            simp only [Act.eval] at h5
            obtain ⟨v, h8, h9⟩ := loadVar_sound (P := P) h1 h6 h7
            exact ⟨v, by simp only [resOf, Sem.run_bind, h5, asAddr, Sem.run_pure, Result.andThen_ok, h8], h9⟩
          · cases h1
      obtain ⟨v, h5, h6⟩ := key
      refine ⟨v :: vs, ?_, ⟨v, vs, rfl, h6, h4⟩⟩
      rw [List.mapM_cons]
      simp only [Sem.run_bind, h5, Result.andThen_ok, h3, Sem.run_pure]
    · cases h

theorem aResults_sound {H : Heap} {tmps : Env} {a : Act} {fn : Func} {x : AV} (hH : HRel w c H) (ht : ERel w c tmps a) (h : aResults P H tmps fn.results.toList = some x) :
    ∃ v, (results fn a.tmps).run P w = .ok v w ∧ Rep w c x v := by
  unfold aResults at h
  have key : ∀ xs, aResultsL P H tmps fn.results.toList = some xs → ∃ vs : List Value, (results fn a.tmps).run P w = .ok (if h : vs.length = 1 then vs[0] else .tuple vs.toArray) w ∧ RepL w c xs vs := fun xs hxs => by
    obtain ⟨vs, h1, h2⟩ := results_sound (P := P) hH ht _ _ hxs
    refine ⟨vs, ?_, h2⟩
    have e : results fn a.tmps = (do
        let us ← fn.results.mapM (resOf a.tmps)
        Pure.pure (if h : us.size = 1 then us[0] else .tuple us)) := by
      unfold results
      rfl
    rw [e, Array.mapM_eq_mapM_toList]
    simp only [Sem.run_bind, Sem.run_map, h1, Result.andThen_ok, Sem.run_pure]
    simp
  split at h
  · rename_i y hy
    simp only [Option.some.injEq] at h
    subst h
    obtain ⟨vs, h1, h2⟩ := key _ hy
    obtain ⟨v, us, rfl, h3, h4⟩ := h2
    simp only [RepL] at h4
    subst h4
    exact ⟨v, h1, h3⟩
  · rename_i xs hne hxs
    simp only [Option.some.injEq] at h
    subst h
    obtain ⟨vs, h1, h2⟩ := key _ hxs
    have hl := h2.length
    have : vs.length ≠ 1 := fun e => by
      rw [e] at hl
      match xs, hl with
      | [y], _ => exact hne y rfl
    rw [dif_neg this] at h1
    exact ⟨_, h1, ⟨_, rfl, h2⟩⟩
  · cases h

/-! ### Code -/

def AX.toExit : AX → Exit
  | .normal => .normal
  | .exit id => .exit id
  | .ret => .ret

/-- Where abstract code ends, the code ends. -/
def ExecOk (P : Program) (ex : Code → AS → Option (AX × AS)) : Prop :=
  ∀ code s r s', ex code s = some (r, s') → ∀ (a : Act) (w : World) (c : Ctx) (Q : Exit → Act → World → Prop), ERel w c s.tmps a → HRel w c s.H → (∀ r, c.dom r → r < s.n) →
    (∀ a' w' c', a'.defers = a.defers → ERel w' c' s'.tmps a' → Mv w c s.H s.n w' c' s'.H s'.n → Q r.toExit a' w') → code.wp P Q a w

/-- What is known of functions is so. -/
def SigOk (P : Program) (cfg : Cfg) : Prop := CallerOk P fun f args H n => match cfg.sig f with
  | some F => F args H n
  | none => none

theorem T.get_fill (x : AV) : ∀ (d i : Nat), T.get (T.fill x d) i = x ∨ T.get (T.fill x d) i = .any
  | 0, i => .inr rfl
  | d + 1, i => by
    simp only [T.fill, T.get]
    cases Nat.beq i 0 with
    | true => exact .inl rfl
    | false =>
      cases Nat.beq (Nat.mod i 2) 1 with
      | true => exact T.get_fill x d _
      | false => exact T.get_fill x d _

theorem sets_sound {xs : List AV} {a rest : Array Value} : ∀ (l : List AV) (t : T) (k : Nat), (∀ j, l[j]? = xs[k + j]?) → RepL w c xs a.toList → (∀ i u, (a ++ rest)[i]? = some u → i < k ∨ xs.length ≤ i → Rep w c (T.get t i) u) →
    ∀ i u, (a ++ rest)[i]? = some u → Rep w c (T.get (T.sets t k l) i) u
  | [], t, k, hl, ha, h, i, u, hu => by
    have : xs.length ≤ k := by
      have := hl 0
      simp at this
      exact this
    exact h i u hu (by omega)
  | x :: l, t, k, hl, ha, h, i, u, hu => by
    refine sets_sound l (T.set t k x) (k + 1) (fun j => ?_) ha (fun i u hu hor => ?_) i u hu
    · have := hl (j + 1)
      simpa [Nat.add_assoc, Nat.add_comm 1 j] using this
    · have hg := T.get_set t k i x
      by_cases e : i = k
      · subst e
        have hx : xs[i]? = some x := by have := hl 0; simp at this; exact this.symm
        obtain ⟨v, h1, h2⟩ := ha.get hx
        have h3 : a[i]? = some v := by simpa using h1
        have h4 : (a ++ rest)[i]? = some v := by
          rw [Array.getElem?_append_left]
          · exact h3
          · exact (Array.getElem?_eq_some_iff.1 h3).1
        rw [h4] at hu
        cases hu
        rcases hg.2 with h5 | h5
        · rw [h5]; exact h2
        · rw [h5]; trivial
      · rw [hg.1 e]
        exact h i u hu (by omega)

theorem init_sound {args : List AV} {args' : Array Value} {n : Nat} {ds : List Deferred} (ha : RepL w c args args'.toList) : ERel w c (Env.init n args) { tmps := args' ++ Array.replicate (n - args'.size) undef, defers := ds } := by
  have hl : args'.size = args.length := by simpa using ha.length
  refine ⟨by simp [Env.init, hl], ?_⟩
  refine sets_sound (xs := args) args _ 0 (fun j => by simp) ha fun i u hu hor => ?_
  have hu2 : u = undef := by
    have hge : args'.size ≤ i := by omega
    rw [Array.getElem?_append_right hge] at hu
    have := Array.getElem?_eq_some_iff.1 hu
    obtain ⟨h1, h2⟩ := this
    simpa using h2.symm
  subst hu2
  rcases T.get_fill undefA (Nat.log2 (args.length + (n - args.length)) + 2) i with h | h
  · rw [h]; exact Rep.undef
  · rw [h]; trivial

theorem body_sound {ex : Code → AS → Option (AX × AS)} (hex : ExecOk P ex) {f : FuncId} {fn : Func} (hf : P.funcs[f]? = some fn) {args : List AV} {H H' : Heap} {n n' : Nat} {x : AV} (h : aBody P ex fn args H n = some (x, H', n'))
    {args' : Array Value} (ha : RepL w c args args'.toList) (hH : HRel w c H) (hn : ∀ r, c.dom r → r < n) : fn.body.isSome = true ∧ Calls P f args' w fun e w' => ∃ u, e = .returned u ∧ Told w c H n x H' n' u w' := by
  unfold aBody at h
  split at h
  · cases h
  · rename_i code hb
    refine ⟨by rw [hb]; rfl, calls_of_wp hf hb ?_⟩
    have key : ∀ (r : AX) (s : AS), ex code ⟨Env.init fn.ntmps args, H, n⟩ = some (r, s) → (r = .normal ∨ r = .ret) → (∃ y, aResults P s.H s.tmps fn.results.toList = some y ∧ some (y, s.H, s.n) = some (x, H', n')) →
        code.wp P (bodyPost P fn fun e w' => ∃ u, e = .returned u ∧ Told w c H n x H' n' u w') { tmps := args' ++ Array.replicate (fn.ntmps - args'.size) undef, defers := [] } w := fun r s hr hor ⟨y, hy, hfin⟩ => by
      refine hex _ _ _ _ hr _ w c _ (init_sound ha) hH hn fun a' w' c' hd ht hM => ?_
      obtain ⟨v, h1, h2⟩ := aResults_sound (P := P) hM.rel ht hy
      simp only [Option.some.injEq, Prod.mk.injEq] at hfin
      obtain ⟨rfl, rfl, rfl⟩ := hfin
      rcases hor with rfl | rfl <;> exact ⟨hd, v, h1, v, rfl, c', h2, hM⟩
    split at h
    · rename_i s hr
      split at h
      · rename_i y hy
        exact key _ _ hr (.inl rfl) ⟨y, hy, h⟩
      · cases h
    · rename_i s hr
      split at h
      · rename_i y hy
        exact key _ _ hr (.inr rfl) ⟨y, hy, h⟩
      · cases h
    · cases h

/-! ### Values that name no private block -/

mutual
theorem Rep.closed {w : World} {c c' : Ctx} (ho : ∀ b, ¬ c.own b → ¬ c'.own b) : ∀ (x : AV) (u : Value), x.closed = true → Rep w c x u → Rep w c' x u
  | .v x, u, _, h => h
  | .any, u, _, h => trivial
  | .ptr r off, u, hc, h => by simp [AV.closed] at hc
  | .slice r off sz len cap, u, hc, h => by simp [AV.closed] at hc
  | .rptr row, u, hc, h => by
    obtain ⟨ad, h1, h2⟩ := h
    exact ⟨ad, h1, RepRow.closed ho row ad (by simpa [AV.closed] using hc) h2⟩
  | .rslice row len cap, u, hc, h => by
    obtain ⟨ad, k, h1, h2, h3⟩ := h
    exact ⟨ad, k, h1, h2, RepRow.closed ho row ad (by simpa [AV.closed] using hc) h3⟩
  | .func fn fs cs, u, hc, h => by
    simp only [AV.closed, Bool.and_eq_true] at hc
    obtain ⟨fs', cs', h1, h2, h3⟩ := h
    exact ⟨fs', cs', h1, RepL.closed ho _ _ hc.1 h2, RepL.closed ho _ _ hc.2 h3⟩
  | .iface t x, u, hc, h => by
    obtain ⟨y, h1, h2⟩ := h
    exact ⟨y, h1, Rep.closed ho _ _ (by simpa [AV.closed] using hc) h2⟩
  | .agg cs, u, hc, h => by
    obtain ⟨y, h1, h2⟩ := h
    exact ⟨y, h1, RepL.closed ho _ _ (by simpa [AV.closed] using hc) h2⟩
  | .tuple cs, u, hc, h => by
    obtain ⟨y, h1, h2⟩ := h
    exact ⟨y, h1, RepL.closed ho _ _ (by simpa [AV.closed] using hc) h2⟩
theorem RepL.closed {w : World} {c c' : Ctx} (ho : ∀ b, ¬ c.own b → ¬ c'.own b) : ∀ (xs : List AV) (l : List Value), AV.closeds xs = true → RepL w c xs l → RepL w c' xs l
  | [], l, _, h => h
  | x :: xs, l, hc, h => by
    simp only [AV.closeds, Bool.and_eq_true] at hc
    obtain ⟨y, ys, h1, h2, h3⟩ := h
    exact ⟨y, ys, h1, Rep.closed ho _ _ hc.1 h2, RepL.closed ho _ _ hc.2 h3⟩
theorem RepRow.closed {w : World} {c c' : Ctx} (ho : ∀ b, ¬ c.own b → ¬ c'.own b) : ∀ (xs : List AV) (ad : Addr), AV.closeds xs = true → RepRow w c xs ad → RepRow w c' xs ad
  | [], ad, _, h => trivial
  | x :: xs, ad, hc, h => by
    simp only [AV.closeds, Bool.and_eq_true] at hc
    obtain ⟨⟨y, h1, h2⟩, h3, h4⟩ := h
    exact ⟨⟨y, h1, Rep.closed ho _ _ hc.1 h2⟩, ho _ h3, RepRow.closed ho _ _ hc.2 h4⟩
end

mutual
theorem Rep.flat {w : World} {c c' : Ctx} : ∀ (x : AV) (u : Value), x.flat = true → Rep w c x u → Rep w c' x u
  | .v x, u, _, h => h
  | .any, u, _, h => trivial
  | .ptr r off, u, hc, h => by simp [AV.flat] at hc
  | .slice r off sz len cap, u, hc, h => by simp [AV.flat] at hc
  | .rptr row, u, hc, h => by simp [AV.flat] at hc
  | .func fn fs cs, u, hc, h => by simp [AV.flat] at hc
  | .rslice row len cap, u, hc, h => by
    obtain ⟨ad, k, h1, h2, h3⟩ := h
    cases row with
    | nil => exact ⟨ad, k, h1, h2, trivial⟩
    | cons x xs => simp [AV.flat] at hc
  | .iface t x, u, hc, h => by
    obtain ⟨y, h1, h2⟩ := h
    exact ⟨y, h1, Rep.flat _ _ (by simpa [AV.flat] using hc) h2⟩
  | .agg cs, u, hc, h => by
    obtain ⟨y, h1, h2⟩ := h
    exact ⟨y, h1, RepL.flat _ _ (by simpa [AV.flat] using hc) h2⟩
  | .tuple cs, u, hc, h => by
    obtain ⟨y, h1, h2⟩ := h
    exact ⟨y, h1, RepL.flat _ _ (by simpa [AV.flat] using hc) h2⟩
theorem RepL.flat {w : World} {c c' : Ctx} : ∀ (xs : List AV) (l : List Value), AV.flats xs = true → RepL w c xs l → RepL w c' xs l
  | [], l, _, h => h
  | x :: xs, l, hc, h => by
    simp only [AV.flats, Bool.and_eq_true] at hc
    obtain ⟨y, ys, h1, h2, h3⟩ := h
    exact ⟨y, ys, h1, Rep.flat _ _ hc.1 h2, RepL.flat _ _ hc.2 h3⟩
end

/-- What comes of a call that starts with no private block, seen by its caller. -/
theorem lent_told {w w' : World} {c c0 c' : Ctx} {H H' : Heap} {n n' : Nat} {y : AV} {u : Value} (hH : HRel w c H) (hn : ∀ r, c.dom r → r < n) (hM : Mv w c0 [] 0 w' c' H' n') (hy : Rep w' c' y u)
    (hcl : y.flat = true ∨ (y.closed = true ∧ ∀ b, c.own b → c0.own b)) : Told w c H n y H n u w' := by
  have hkeep : ∀ b, b < w.heap.size → w'.heap[b]? = w.heap[b]? := fun b hb => hM.keep b hb fun r k hr => by simp [hget] at hr
  let c2 : Ctx := { ρ := c.ρ, dom := c.dom, own := fun b => (b < w.heap.size ∧ c.own b) ∨ (w.heap.size ≤ b ∧ c'.own b) }
  have hE : Ext w c w' c2 := by
    refine ⟨hM.ext.os, hM.ext.tape, hM.ext.output, hM.ext.size, fun _ h => h, fun _ _ => rfl, hM.ext.shape, fun b hb _ => hkeep b hb, fun b hb ho h => ?_⟩
    rcases h with h | h
    · exact ho h.2
    · omega
  have hR : HRel w' c2 H := by
    refine ⟨fun r b hr => ?_, hH.inj, fun x hx => ?_⟩
    · obtain ⟨h1, h2, cs', fz, h3, h4, l1, l2, h5, h6⟩ := hH.live r b hr
      have hlt := hH.own _ h2
      exact ⟨h1, .inl ⟨hlt, h2⟩, cs', fz, by rw [hkeep _ hlt]; exact h3, h4, l1, l2, h5, RepL.mono hE _ _ h6⟩
    · rcases hx with hx | hx
      · exact Nat.lt_of_lt_of_le hx.1 hM.ext.size
      · exact hM.rel.own x hx.2
  refine ⟨c2, ?_, ⟨hE, fun b hb _ => hkeep b hb, fun b hb _ => .inl ⟨hH.own b hb, hb⟩, fun r k hr _ => ⟨r, k, hr, rfl⟩, hR, Nat.le_refl _, fun r hr => ⟨hn r hr, .inl hr⟩⟩⟩
  rcases hcl with h | ⟨h, ho⟩
  · exact Rep.flat _ _ h hy
  · refine Rep.closed (fun b hb h2 => ?_) _ _ h hy
    rcases h2 with h2 | h2
    · exact hb (hM.priv b (ho b h2.2) fun r k hr => by simp [hget] at hr)
    · exact hb h2.2

theorem pureRun_sound {ex : Code → AS → Option (AX × AS)} (hex : ExecOk P ex) {f : FuncId} {fn : Func} (hf : P.funcs[f]? = some fn) {args : List AV} {y : AV} (h : aPureRun P ex fn args = some y) :
    AV.closeds args = true ∧ y.closed = true ∧ fn.body.isSome = true ∧ ∀ (w : World) (c : Ctx) (args' : Array Value), RepL w c args args'.toList → (∀ x, c.own x → x < w.heap.size) →
      Calls P f args' w fun e w' => ∃ u, e = .returned u ∧ ∃ c' H' n', Rep w' c' y u ∧ Mv w { ρ := c.ρ, dom := fun _ => False, own := c.own } [] 0 w' c' H' n' := by
  unfold aPureRun at h
  cases hcl : AV.closeds args with
  | false => simp [hcl] at h
  | true =>
    rw [hcl] at h
    simp only [cond_true] at h
    split at h
    · rename_i y0 H1 n1 hb
      split at h
      · rename_i y1 hy
        cases hc2 : AV.closed y1 with
        | false => simp [hc2] at h
        | true =>
          rw [hc2] at h
          simp only [cond_true, Option.some.injEq] at h
          subst h
          have hbs : fn.body.isSome = true := by
            unfold aBody at hb
            split at hb
            · cases hb
            · rename_i hbb; rw [hbb]; rfl
          refine ⟨rfl, hc2, hbs, fun w c args' ha ho => ?_⟩
          have h0 : HRel w { ρ := c.ρ, dom := fun _ => False, own := c.own } [] := ⟨fun r b hr => by simp [hget] at hr, fun r s b b' hr => by simp [hget] at hr, ho⟩
          have ha0 : RepL w { ρ := c.ρ, dom := fun _ => False, own := c.own } args args'.toList := RepL.closed (c := c) (c' := { ρ := c.ρ, dom := fun _ => False, own := c.own }) (fun b hb => hb) _ _ hcl ha
          refine (body_sound hex hf hb ha0 h0 (fun r hr => hr.elim)).2.mono fun e w' ⟨u, he, c', hu, hM⟩ => ⟨u, he, c'.below H1 0, hlow H1 0, n1, ?_, hM.below h0⟩
          exact (freeze_sound hM.rel (n0 := 0) 1000).1 _ _ _ hy hu
      · cases h
    · cases h

theorem pure_sound {ex : Code → AS → Option (AX × AS)} (hex : ExecOk P ex) {f : FuncId} {fn : Func} (hf : P.funcs[f]? = some fn) {args : List AV} {H H' : Heap} {n n' : Nat} {x : AV} (h : aPureBody P ex fn args H n = some (x, H', n')) :
    fn.body.isSome = true ∧ ∀ (w : World) (c : Ctx) (args' : Array Value), RepL w c args args'.toList → HRel w c H → (∀ r, c.dom r → r < n) → Calls P f args' w fun e w' => ∃ u, e = .returned u ∧ Told w c H n x H' n' u w' := by
  unfold aPureBody at h
  cases hcl : AV.closeds args with
  | true =>
    rw [hcl] at h
    simp only [cond_true, Option.map_eq_some_iff, Prod.mk.injEq] at h
    obtain ⟨y, h1, rfl, rfl, rfl⟩ := h
    obtain ⟨_, h2, h3, h4⟩ := pureRun_sound hex hf h1
    refine ⟨h3, fun w c args' ha hH hn => (h4 w c args' ha hH.own).mono fun e w' ⟨u, he, c', H', n', hu, hM⟩ => ⟨u, he, ?_⟩⟩
    exact lent_told hH hn hM hu (.inr ⟨h2, fun b hb => hb⟩)
  | false =>
    rw [hcl] at h
    simp only [cond_false] at h
    split at h
    · cases h
    · rename_i args2 hfr
      split at h
      · rename_i y h1
        cases hfl : AV.flat y with
        | false => simp [hfl] at h
        | true =>
          rw [hfl] at h
          simp only [cond_true, Option.some.injEq, Prod.mk.injEq] at h
          obtain ⟨rfl, rfl, rfl⟩ := h
          obtain ⟨_, h2, h3, h4⟩ := pureRun_sound hex hf h1
          refine ⟨h3, fun w c args' ha hH hn => ?_⟩
          have ha0 := (freeze_sound hH (n0 := 0) 1000).2 _ _ _ hfr ha
          refine (h4 w (c.below H 0) args' ha0 fun x hx => hH.own x hx.1).mono fun e w' ⟨u, he, c', H', n', hu, hM⟩ => ⟨u, he, ?_⟩
          exact lent_told hH hn hM hu (.inl hfl)
      · cases h

/-- No function has the one name that is none of Go's text. -/
def NamesOk (P : Program) : Prop := ∀ (f : FuncId) (fn : Func), P.funcs[f]? = some fn → (fn.name == "runtime.NumGoroutine") = false

theorem caller_sound {cfg : Cfg} (hn0 : NamesOk P) (hs : SigOk P cfg) {ex : Code → AS → Option (AX × AS)} (hex : ExecOk P ex) : CallerOk P (aCallOf P cfg ex) := by
  intro f args H n x H' n' h
  unfold aCallOf at h
  split at h
  · rename_i F hF
    exact hs f args H n x H' n' (by simp only [hF]; exact h)
  · split at h
    · rename_i hF fn hf
      cases hp : cfg.pure f with
      | true =>
        rw [hp] at h
        simp only [cond_true] at h
        have := pure_sound hex hf h
        exact ⟨⟨fn, hf, this.1, hn0 f fn hf⟩, this.2⟩
      | false =>
        rw [hp] at h
        simp only [cond_false] at h
        refine ⟨⟨fn, hf, ?_, hn0 f fn hf⟩, fun w c args' ha hH hn => (body_sound hex hf h ha hH hn).2⟩
        unfold aBody at h
        split at h
        · cases h
        · rename_i hb; rw [hb]; rfl
    · cases h

end
end Go.Va
