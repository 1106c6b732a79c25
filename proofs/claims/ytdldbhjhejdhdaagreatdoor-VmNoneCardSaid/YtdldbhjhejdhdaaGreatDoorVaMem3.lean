/- The abstract evaluator: operations on memory: append, copy. -/
import Derived.Test.YtdldbhjhejdhdaaGreatDoorVaMem2
set_option linter.unusedVariables false
set_option linter.unusedSimpArgs false
namespace Go.Va

section
variable {P : Program} {w : World} {c : Ctx}

theorem Ext.drew : Ext w c w.drew c := ⟨rfl, rfl, rfl, Nat.le_refl _, fun _ h => h, fun _ _ => rfl, fun _ _ => rfl, fun _ _ _ => rfl, fun _ _ h => h⟩

theorem HRel.drew {H : Heap} (h : HRel w c H) : HRel w.drew c H where
  live r b hb := by
    obtain ⟨h1, h2, cs', fz, h3, h4, l1, l2, h5, h6⟩ := h.live r b hb
    exact ⟨h1, h2, cs', fz, h3, h4, l1, l2, h5, RepL.mono Ext.drew _ _ h6⟩
  inj := h.inj
  own := h.own

theorem Mv.drew {H : Heap} {n : Nat} (hH : HRel w c H) (hn : ∀ r, c.dom r → r < n) : Mv w c H n w.drew c H n :=
  ⟨Ext.drew, fun _ _ _ => rfl, fun _ h _ => h, fun r k hr _ => ⟨r, k, hr, rfl⟩, hH.drew, Nat.le_refl _, fun r hr => ⟨hn r hr, .inl hr⟩⟩

theorem take_flat (vs : List Value) (k : Nat) : (vs.take k).length = min k vs.length := List.length_take

theorem src_sound {H : Heap} {sz : Nat} {x : AV} {u : Value} {cells : List AV} {m : Nat} (h : srcCells H sz x = some (cells, m)) (hx : Rep w c x u) (hH : HRel w c H) :
    ∃ vs, (Builtin.lenOf u).run P w = .ok m w ∧ RepL w c cells vs ∧ vs.length = m * sz ∧ (∀ k, k ≤ m → (Builtin.firstCells sz k u).run P w = .ok (vs.take (k * sz)).toArray w) := by
  unfold srcCells at h
  split at h
  · rename_i r off sz' len cap
    split at h
    · rename_i b hb
      cases hc : (Nat.beq sz sz' && Nat.ble (off + len * sz) b.cs.length) with
      | false => simp [hc] at h
      | true =>
        rw [hc] at h
        simp only [cond_true, Option.some.injEq, Prod.mk.injEq] at h
        obtain ⟨rfl, rfl⟩ := h
        rw [Bool.and_eq_true] at hc
        have e := Nat.eq_of_beq_eq_true hc.1
        have hle := Nat.le_of_ble_eq_true hc.2
        subst e
        obtain ⟨hd, k0, rfl, _⟩ := hx
        obtain ⟨ad, vs, h1, h2, h3⟩ := at_sound (a := .ptr r off) (c := c) (cs := b.cs.drop off) (by simp [at?, hb]) ⟨hd, rfl⟩ hH
        simp only [Value.pointer.injEq, Option.some.injEq] at h1
        subst h1
        have hl := h2.length
        have h5 : (vs.take (len * sz)).length = len * sz := by rw [List.length_take, hl]; simp; omega
        refine ⟨vs.take (len * sz), rfl, h2.take _, h5, fun k hk => ?_⟩
        have h4 : k * sz ≤ len * sz := Nat.mul_le_mul_right _ hk
        have h6 := run_loadCells (P := P) (h3.take (k * sz))
        have h7 : (vs.take (k * sz)).length = k * sz := by rw [List.length_take, hl]; simp; omega
        rw [h7] at h6
        unfold Builtin.firstCells
        simp only
        rw [List.take_take, Nat.min_eq_left h4]
        exact h6
    · cases h
  · rename_i row len cap
    cases hc : Nat.ble (len * sz) row.length with
    | false => simp [hc] at h
    | true =>
      rw [hc] at h
      simp only [cond_true, Option.some.injEq, Prod.mk.injEq] at h
      obtain ⟨rfl, rfl⟩ := h
      have hle := Nat.le_of_ble_eq_true hc
      obtain ⟨ad, k0, rfl, _, hrow⟩ := hx
      obtain ⟨vs, h2, h3⟩ := hrow.cells
      have hl := h2.length
      have h5 : (vs.take (len * sz)).length = len * sz := by rw [List.length_take, hl]; omega
      refine ⟨vs.take (len * sz), rfl, h2.take _, h5, fun k hk => ?_⟩
      have h4 : k * sz ≤ len * sz := Nat.mul_le_mul_right _ hk
      have h6 := run_loadCells (P := P) (h3.take (k * sz))
      have h7 : (vs.take (k * sz)).length = k * sz := by rw [List.length_take, hl]; omega
      rw [h7] at h6
      unfold Builtin.firstCells
      simp only
      rw [List.take_take, Nat.min_eq_left h4]
      exact h6
  · simp only [Option.some.injEq, Prod.mk.injEq] at h
    obtain ⟨rfl, rfl⟩ := h
    simp only [Rep] at hx
    subst hx
    refine ⟨[], rfl, by simp [RepL], by simp, fun k hk => ?_⟩
    unfold Builtin.firstCells
    simp
  · cases h

theorem growBy_le (n : Nat) : ∀ (r c : Nat), c ≤ 2 * n + 192 → Builtin.growBy n r c ≤ 2 * n + 192
  | 0, c, h => by simpa [Builtin.growBy] using h
  | r + 1, c, h => by
    unfold Builtin.growBy
    split
    · exact h
    · exact growBy_le n r _ (by omega)

theorem nextslicecap_le {n k : Nat} (h : k < n) : Builtin.nextslicecap n k ≤ 2 * n + 1024 := by
  unfold Builtin.nextslicecap
  split
  · omega
  · split
    · omega
    · have := growBy_le n 4 k (by omega)
      omega

/-- An append that wants a new row. -/
theorem append_grows {t t2 elem e2 : TypeId} {i : TypeInfo} {z : List AV} {u v : Value} {base : Option Addr} {len k m : Nat} {ty : TypeId} {news olds : Array Value} (hu : P.underlying t = some (.slice elem)) (hu2 : P.underlying t2 = some (.slice e2))
    (hi : P.info? elem = some i) (hz : zeroCells? P elem = some z) (hzl : z.length = i.size) (e : u = .slice base len k) (hlen : (Builtin.lenOf v).run P w = .ok m w)
    (hnew : (Builtin.firstCells i.size m v).run P w.drew = .ok news w.drew) (hold : (Builtin.firstCells i.size len u).run P w.drew = .ok olds w.drew) (hgt : k < len + m) (hroom : roomOk (len + m) i.bytes = true) :
    ∃ cap zs, len + m ≤ cap ∧ zs.size = (cap - (len + m)) * i.size ∧ (Builtin.append_ #[t, t2] ty #[u, v]).run P w = .ok (.slice (some ⟨w.heap.size, 0, none⟩) (len + m) cap) (w.drew.alloc (.cells (olds ++ news ++ zs) elem)) := by
  subst e
  unfold roomOk at hroom
  rw [Bool.and_eq_true] at hroom
  have h1 := Nat.le_of_ble_eq_true hroom.1
  have h2 := Nat.le_of_ble_eq_true hroom.2
  have hsz : size? P elem = some i.size := by simp [size?, hi]
  obtain ⟨zv, hzv, hzz⟩ := run_zeroValue (w := w.drew) hz
  obtain ⟨cap, hcap⟩ : ∃ cap, cap = len + m + w.tape w.drawn (.appendCap (len + m) k elem) % (2 ^ 63 - (len + m)) := ⟨_, rfl⟩
  refine ⟨cap, Builtin.zeroCells zv.cells (cap - (len + m)), by omega, ?_, ?_⟩
  · unfold Builtin.zeroCells
    have : zv.cells.size = i.size := by rw [← hzl, hzz]; simp
    simp [this]
  · unfold Builtin.append_
    simp only [List.getElem?_toArray, List.getElem?_cons_zero, List.getElem?_cons_succ, Sem.run_bind, run_underlying hu, Result.andThen_ok, run_sizeOf hsz, run_underlying hu2, Sem.run_pure, Bool.false_eq_true, if_false, hlen]
    rw [if_neg (by omega)]
    have h3 : ¬ (((len + m : Nat) : Int) > IntKind.i64.max) := by
      simp only [IntKind.max, IntKind.signed, IntKind.bits]
      simp
      omega
    have h4 : ¬ (Builtin.nextslicecap (len + m) k * i.bytes > 2 ^ 48) := by
      have h5 := Nat.mul_le_mul_right i.bytes (nextslicecap_le hgt)
      omega
    simp only [Sem.run_bind, run_typeInfo hi, Result.andThen_ok, h3, false_and, if_false, Sem.run_pure, h4, run_choose, Question.forced, Bool.false_eq_true, Question.cut, run_askRoom, World.drew_eq, Bool.not_false, if_true]
    rw [← hcap, hold]
    simp only [Result.andThen_ok, hnew, hzv, run_newRow]
    rfl

/-- An append that finds room. -/
theorem append_fits {t t2 elem e2 : TypeId} {sz : Nat} {u v : Value} {ad : Addr} {len k m : Nat} {ty : TypeId} {news : Array Value} {w' : World} (hu : P.underlying t = some (.slice elem)) (hu2 : P.underlying t2 = some (.slice e2))
    (hsz : size? P elem = some sz) (e : u = .slice (some ad) len k) (hlen : (Builtin.lenOf v).run P w = .ok m w) (hnew : (Builtin.firstCells sz m v).run P w = .ok news w) (hle : len + m ≤ k)
    (hst : (storeCells (ad.add (len * sz)) news.toList).run P w = .ok () w') : (Builtin.append_ #[t, t2] ty #[u, v]).run P w = .ok (.slice (some ad) (len + m) k) w' := by
  subst e
  unfold Builtin.append_
  simp only [List.getElem?_toArray, List.getElem?_cons_zero, List.getElem?_cons_succ, Sem.run_bind, run_underlying hu, Result.andThen_ok, run_sizeOf hsz, run_underlying hu2, Sem.run_pure, Bool.false_eq_true, if_false, hlen]
  rw [if_pos hle]
  simp only [Sem.run_bind, Bool.not_false, if_true, hnew, Result.andThen_ok, hst, Sem.run_pure]

theorem HRel.del {H : Heap} (hH : HRel w c H) {r : Nat} : HRel w c (hdel H r) where
  live s b' hs := by
    rw [hget_hdel] at hs
    split at hs
    · cases hs
    · exact hH.live s b' hs
  inj s s' b1 b2 h1 h2 e := by
    rw [hget_hdel] at h1 h2
    split at h1
    · cases h1
    · split at h2
      · cases h2
      · exact hH.inj s s' b1 b2 h1 h2 e
  own := hH.own

theorem Mv.del {w' : World} {c' : Ctx} {H H' : Heap} {n n' r : Nat} (h : Mv w c H n w' c' H' n') : Mv w c H n w' c' (hdel H' r) n' :=
  ⟨h.ext, h.keep, h.priv, fun s k hs hlt => by
    rw [hget_hdel] at hs
    split at hs
    · cases hs
    · exact h.img s k hs hlt, h.rel.del, h.le, h.fresh⟩

/-- The row gets another number. -/
def Ctx.also (c : Ctx) (r b : Nat) : Ctx := { c with ρ := fun s => if s = r then b else c.ρ s, dom := fun s => s = r ∨ c.dom s }

theorem Ext.also {n b : Nat} (hn : ¬ c.dom n) : Ext w c w (c.also n b) where
  os := rfl
  tape := rfl
  output := rfl
  size := Nat.le_refl _
  dom _ h := .inr h
  rho s hs := by
    have : s ≠ n := fun e => hn (e ▸ hs)
    simp [Ctx.also, this]
  shape _ _ := rfl
  keep _ _ _ := rfl
  own _ _ h := h

theorem HRel.rename {H : Heap} (hH : HRel w c H) {r n : Nat} {b : Blk} (hr : hget H r = some b) (hn : ¬ c.dom n) : HRel w (c.also n (c.ρ r)) (hput (hdel H r) n b) := by
  have hE : Ext w c w (c.also n (c.ρ r)) := Ext.also hn
  have hne : ∀ s b, hget H s = some b → s ≠ n := fun s b hs e => hn (e ▸ (hH.live s b hs).1)
  have hρ : ∀ s, s ≠ n → (c.also n (c.ρ r)).ρ s = c.ρ s := fun s hs => by simp [Ctx.also, hs]
  have hρn : (c.also n (c.ρ r)).ρ n = c.ρ r := by simp [Ctx.also]
  have key : ∀ s b1, hget (hput (hdel H r) n b) s = some b1 → ∃ s0, hget H s0 = some b1 ∧ (c.also n (c.ρ r)).ρ s = c.ρ s0 ∧ (s = n → s0 = r) ∧ (s ≠ n → s0 = s ∧ s ≠ r) := fun s b1 hs => by
    rw [hget_hput] at hs
    split at hs
    · rename_i e
      simp only [Option.some.injEq] at hs
      subst hs e
      exact ⟨r, hr, hρn, fun _ => rfl, fun h => absurd rfl h⟩
    · rename_i e
      rw [hget_hdel] at hs
      split at hs
      · cases hs
      · rename_i e2
        exact ⟨s, hs, hρ s e, fun h => absurd h e, fun _ => ⟨rfl, e2⟩⟩
  refine ⟨fun s b1 hs => ?_, fun s s' b1 b2 hs hs' e => ?_, fun x hx => ?_⟩
  · obtain ⟨s0, h1, h2, h3, h4⟩ := key s b1 hs
    obtain ⟨h5, h6, cs', fz, h7, h8, l1, l2, h9, h10⟩ := hH.live s0 b1 h1
    rw [h2]
    refine ⟨?_, h6, cs', fz, h7, h8, l1, l2, h9, RepL.mono hE _ _ h10⟩
    by_cases e : s = n
    · exact .inl e
    · exact .inr ((h4 e).1 ▸ h5)
  · obtain ⟨s0, h1, h2, h3, h4⟩ := key s b1 hs
    obtain ⟨s1, h5, h6, h7, h8⟩ := key s' b2 hs'
    rw [h2, h6] at e
    have := hH.inj s0 s1 b1 b2 h1 h5 e
    by_cases e1 : s = n
    · by_cases e2 : s' = n
      · rw [e1, e2]
      · have a1 := h3 e1
        have a2 := h8 e2
        exact absurd (this ▸ a1 : s1 = r) (fun h => a2.2 (a2.1 ▸ h))
    · by_cases e2 : s' = n
      · have a1 := h7 e2
        have a2 := h4 e1
        exact absurd (this ▸ a1 : s0 = r) (fun h => a2.2 (a2.1 ▸ h))
      · rw [← (h4 e1).1, ← (h8 e2).1, this]
  · exact hH.own x hx

theorem Mv.rename {H : Heap} {n : Nat} (hH : HRel w c H) (hn : ∀ r, c.dom r → r < n) {r : Nat} {b : Blk} (hr : hget H r = some b) : Mv w c H n w (c.also n (c.ρ r)) (hput (hdel H r) n b) (n + 1) := by
  have hnd : ¬ c.dom n := fun h => by have := hn n h; omega
  refine ⟨Ext.also hnd, fun _ _ _ => rfl, fun _ h _ => h, fun s k hs _ => ?_, HRel.rename hH hr hnd, Nat.le_succ _, fun s hs => ?_⟩
  · rw [hget_hput] at hs
    split at hs
    · rename_i e; exact ⟨r, b, hr, by simp [Ctx.also, e]⟩
    · rename_i e
      rw [hget_hdel] at hs
      split at hs
      · cases hs
      · exact ⟨s, k, hs, by simp [Ctx.also, e]⟩
  · rcases hs with rfl | hs
    · exact ⟨by omega, .inr (Nat.le_refl _)⟩
    · exact ⟨by have := hn s hs; omega, .inl hs⟩

/-- What an operation leaves. -/
def Leaves (P : Program) (w : World) (c : Ctx) (H : Heap) (n : Nat) (s : Sem Value) (x : AV) (H' : Heap) (n' : Nat) : Prop :=
  ∃ u w' c', s.run P w = .ok u w' ∧ Rep w' c' x u ∧ Mv w c H n w' c' H' n'

/-- A new row behind a draw. -/
theorem leaves_new {s : Sem Value} {elem : TypeId} {sz len m n cap : Nat} {H : Heap} {cells cells2 : List AV} {olds news zs : Array Value} (hH : HRel w c H) (hn : ∀ r, c.dom r → r < n)
    (hrun : s.run P w = .ok (.slice (some ⟨w.heap.size, 0, none⟩) (len + m) cap) (w.drew.alloc (.cells (olds ++ news ++ zs) elem)))
    (h1 : RepL w.drew c cells olds.toList) (h2 : RepL w.drew c cells2 news.toList) (hcap : len + m ≤ cap) (hzs : zs.size = (cap - (len + m)) * sz) (hl1 : olds.size = len * sz) (hl2 : news.size = m * sz) :
    Leaves P w c H n s (.slice n 0 sz (len + m) none) (hput H n ⟨elem, cells ++ cells2⟩) (n + 1) := by
  have hH' := hH.drew
  have hM := (Mv.drew hH hn).trans hH (Mv.alloc (cs' := olds ++ news ++ zs) (blk := ⟨elem, cells ++ cells2⟩) hH' hn ⟨olds.toList ++ news.toList, zs.toList, by simp, h1.append h2⟩)
  refine ⟨_, _, c.new n w.heap.size, hrun, ⟨.inl rfl, cap, by simp [Ctx.new], hcap, elem, (olds ++ news ++ zs).size, ?_, ?_⟩, hM⟩
  · unfold World.shape?
    have e1 : (c.new n w.heap.size).ρ n = w.drew.heap.size := by simp [Ctx.new]
    rw [e1, heap_alloc_new]
  · have : len * sz + m * sz + (cap - (len + m)) * sz = cap * sz := by
      rw [← Nat.add_mul, ← Nat.add_mul]; congr 1; omega
    simp [hl1, hl2, hzs]
    omega

end
end Go.Va
