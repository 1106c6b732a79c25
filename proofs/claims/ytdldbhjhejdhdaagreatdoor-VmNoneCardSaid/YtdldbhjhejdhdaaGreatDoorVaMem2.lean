/- The abstract evaluator: operations on memory: store, append, copy. -/
import Derived.Test.YtdldbhjhejdhdaaGreatDoorVaMem
set_option linter.unusedVariables false
set_option linter.unusedSimpArgs false
namespace Go.Va

section
variable {P : Program} {w : World} {c : Ctx}

/-- Block b becomes o. -/
def setBlk (w : World) (b : Nat) (o : Obj) : World := { w with heap := w.heap.setIfInBounds b o }

theorem setBlk_at {b : Nat} {o : Obj} (h : b < w.heap.size) : (setBlk w b o).heap[b]? = some o := by
  simp [setBlk, Array.getElem?_setIfInBounds, h]

theorem setBlk_other {b x : Nat} {o : Obj} (h : x ≠ b) : (setBlk w b o).heap[x]? = w.heap[x]? := by
  simp only [setBlk, Array.getElem?_setIfInBounds]
  rw [if_neg (by omega)]

theorem setBlk_set {b : Nat} {o o' : Obj} : setBlk (setBlk w b o) b o' = setBlk w b o' := by
  simp [setBlk]

theorem setBlk_self {b : Nat} {o : Obj} (h : w.heap[b]? = some o) : setBlk w b o = w := by
  have hl := (Array.getElem?_eq_some_iff.1 h).1
  have : w.heap.setIfInBounds b o = w.heap := by
    apply Array.ext_getElem?
    intro i
    rw [Array.getElem?_setIfInBounds]
    split
    · rename_i e
      subst e
      simp [hl] at h ⊢
      exact h.symm
    · rfl
  simp [setBlk, this]

theorem setCell_setBlk {b i : Nat} {cs : Array Value} {t : TypeId} {fz : Nat × Nat} {v : Value} (h : w.heap[b]? = some (.cells cs t fz)) :
    w.setCell ⟨b, i, none⟩ v = setBlk w b (.cells (cs.setIfInBounds i v) t fz) := by
  unfold World.setCell setBlk
  congr 1
  apply Array.ext_getElem?
  intro j
  rw [Array.getElem?_modify, Array.getElem?_setIfInBounds]
  have hl := (Array.getElem?_eq_some_iff.1 h).1
  by_cases e : b = j
  · subst e
    simp [hl] at h ⊢
    simp [h]
  · rw [if_neg e, if_neg e]

theorem frozen_of_block {b : Nat} {cs : Array Value} {t : TypeId} {fz : Nat × Nat} (h : w.heap[b]? = some (.cells cs t fz)) (i : Nat) (hf : ¬ (fz.1 ≤ i ∧ i < fz.2)) : w.frozen? ⟨b, i, none⟩ = false := by
  unfold World.frozen?
  rw [h]
  simp only [Bool.and_eq_false_iff, decide_eq_false_iff_not]
  by_cases h1 : fz.1 ≤ i
  · exact .inr fun h2 => hf ⟨h1, h2⟩
  · exact .inl h1

theorem run_storeCells {b off : Nat} {t : TypeId} {fz : Nat × Nat} : ∀ (vs : List Value) (i : Nat) (w : World) (cs : Array Value), w.heap[b]? = some (.cells cs t fz) → off + i + vs.length ≤ cs.size →
    (∀ j, j < cs.size → ¬ (fz.1 ≤ j ∧ j < fz.2)) → (∀ v ∈ vs, v.oneCell' = true) →
    ∃ cs2 : Array Value, (storeCells ⟨b, off, none⟩ vs i).run P w = .ok () (setBlk w b (.cells cs2 t fz)) ∧ cs2.toList = cs.toList.take (off + i) ++ vs ++ cs.toList.drop (off + i + vs.length)
  | [], i, w, cs, h, hl, hf, ho => ⟨cs, by simp [storeCells, setBlk_self h], by simp⟩
  | v :: vs, i, w, cs, h, hl, hf, ho => by
    simp only [List.length_cons] at hl
    have hc : w.cell? ⟨b, off + i, none⟩ = some cs[off + i] := by
      rw [cell_of_block h]; simp
    have hfz := frozen_of_block h (off + i) (hf _ (by omega))
    have h1 : (setBlk w b (.cells (cs.setIfInBounds (off + i) v) t fz)).heap[b]? = some (.cells (cs.setIfInBounds (off + i) v) t fz) :=
      setBlk_at (Array.getElem?_eq_some_iff.1 h).1
    obtain ⟨cs2, h2, h3⟩ := run_storeCells (b := b) (off := off) (t := t) (fz := fz) vs (i + 1) _ (cs.setIfInBounds (off + i) v) h1 (by rw [Array.size_setIfInBounds]; omega) (by simpa using hf) (fun x hx => ho x (by simp [hx]))
    refine ⟨cs2, ?_, ?_⟩
    · unfold storeCells
      rw [Sem.run_bind, add_plain, run_store _ _ _ _ _ (ho v (by simp)), hc]
      simp only [hfz, Bool.false_eq_true, if_false, Result.andThen_ok]
      rw [setCell_setBlk h, h2, setBlk_set]
    · rw [h3]
      have hlt : off + i < cs.toList.length := by simp; omega
      simp only [Array.toList_setIfInBounds]
      have e1 : off + (i + 1) = off + i + 1 := by omega
      rw [e1, List.take_set, List.drop_set_of_lt (by omega)]
      have : (cs.toList.take (off + i + 1)).set (off + i) v = cs.toList.take (off + i) ++ [v] := by
        rw [List.take_succ_eq_append_getElem hlt]
        rw [List.set_append_right _ _ (by simp; omega)]
        simp [List.length_take]
        have : off + i - min (off + i) cs.size = 0 := by simp at hlt; omega
        rw [this]; simp
      rw [this]
      simp only [List.length_cons, List.append_assoc, List.singleton_append]
      have e2 : off + i + 1 + vs.length = off + i + (vs.length + 1) := by omega
      rw [e2]

/-- An owned block is written. -/
theorem Ext.set {H : Heap} (hH : HRel w c H) {r : Nat} {b : Blk} (hr : hget H r = some b) {cs cs2 : Array Value} {t : TypeId} {fz : Nat × Nat} (h : w.heap[c.ρ r]? = some (.cells cs t fz)) (hs : cs2.size = cs.size) :
    Ext w c (setBlk w (c.ρ r) (.cells cs2 t fz)) c where
  os := rfl
  tape := rfl
  output := rfl
  size := by simp [setBlk]
  dom _ h := h
  rho _ _ := rfl
  shape x hx := by
    unfold World.shape?
    by_cases e : x = c.ρ r
    · subst e
      rw [setBlk_at hx, h]
      simp [hs]
    · rw [setBlk_other e]
  keep x hx ho := setBlk_other fun e => ho (e ▸ (hH.live r b hr).2.1)
  own _ _ h := h

theorem HRel.set {H : Heap} (hH : HRel w c H) {r : Nat} {b : Blk} (hr : hget H r = some b) {cs cs2 : Array Value} {t : TypeId} {fz : Nat × Nat} (h : w.heap[c.ρ r]? = some (.cells cs t fz)) (hs : cs2.size = cs.size)
    {ys : List AV} (hy : ∃ l1 l2, cs2.toList = l1 ++ l2 ∧ RepL w c ys l1) : HRel (setBlk w (c.ρ r) (.cells cs2 t fz)) c (hput H r { b with cs := ys }) := by
  have hE := Ext.set hH hr h hs
  obtain ⟨hd, ho, cs0, fz0, h1, h2, _⟩ := hH.live r b hr
  rw [h] at h1
  simp only [Option.some.injEq, Obj.cells.injEq] at h1
  obtain ⟨rfl, rfl, rfl⟩ := h1
  refine ⟨fun s b' hs' => ?_, fun s s' b1 b2 hs1 hs2 e => ?_, fun x hx => ?_⟩
  · rw [hget_hput] at hs'
    split at hs'
    · rename_i e
      subst e
      simp only [Option.some.injEq] at hs'
      subst hs'
      obtain ⟨l1, l2, h3, h4⟩ := hy
      exact ⟨hd, ho, cs2, fz, setBlk_at (Array.getElem?_eq_some_iff.1 h).1, by rw [hs]; exact h2, l1, l2, h3, RepL.mono hE _ _ h4⟩
    · rename_i e
      obtain ⟨h3, h4, cs', fz', h5, h6, l1, l2, h7, h8⟩ := hH.live s b' hs'
      refine ⟨h3, h4, cs', fz', ?_, h6, l1, l2, h7, RepL.mono hE _ _ h8⟩
      rw [setBlk_other fun e' => e (hH.inj s r b' b hs' hr e')]
      exact h5
  · have key : ∀ s b1, hget (hput H r { b with cs := ys }) s = some b1 → ∃ b2, hget H s = some b2 := fun s b1 hs => by
      rw [hget_hput] at hs
      split at hs
      · rename_i e; exact ⟨b, e ▸ hr⟩
      · exact ⟨b1, hs⟩
    obtain ⟨x1, hx1⟩ := key s b1 hs1
    obtain ⟨x2, hx2⟩ := key s' b2 hs2
    exact hH.inj s s' x1 x2 hx1 hx2 e
  · have := hH.own x hx
    simpa [setBlk] using this

theorem Mv.set {H : Heap} (hH : HRel w c H) {n : Nat} (hn : ∀ r, c.dom r → r < n) {r : Nat} {b : Blk} (hr : hget H r = some b) {cs cs2 : Array Value} {t : TypeId} {fz : Nat × Nat} (h : w.heap[c.ρ r]? = some (.cells cs t fz)) (hs : cs2.size = cs.size)
    {ys : List AV} (hy : ∃ l1 l2, cs2.toList = l1 ++ l2 ∧ RepL w c ys l1) : Mv w c H n (setBlk w (c.ρ r) (.cells cs2 t fz)) c (hput H r { b with cs := ys }) n := by
  refine ⟨Ext.set hH hr h hs, fun x _ hl => setBlk_other fun e => hl r b hr e.symm, fun b hb _ => hb, fun s k hs' _ => ?_, HRel.set hH hr h hs hy, Nat.le_refl _, fun r hr => ⟨hn r hr, .inl hr⟩⟩
  rw [hget_hput] at hs'
  split at hs'
  · rename_i e; subst e; exact ⟨s, b, hr, rfl⟩
  · exact ⟨s, k, hs', rfl⟩

/-- Some cells of an owned block, from its head's part on, are written. -/
theorem write_sound {H : Heap} (hH : HRel w c H) {n : Nat} (hn : ∀ r, c.dom r → r < n) {r off : Nat} {b : Blk} (hr : hget H r = some b) {ys : List AV} {vs : List Value} (hy : RepL w c ys vs) (hle : off + ys.length ≤ b.cs.length) (ho : ∀ y ∈ ys, AV.one y = true) :
    ∃ w', (storeCells ⟨c.ρ r, off, none⟩ vs).run P w = .ok () w' ∧ Mv w c H n w' c (hput H r { b with cs := splice b.cs off ys }) n := by
  obtain ⟨hd, hown, cs', fz, h1, h2, l1, l2, h3, h4⟩ := hH.live r b hr
  have hl1 := h4.length
  have hlv := hy.length
  have hsz : cs'.size = l1.length + l2.length := by
    have := congrArg List.length h3
    simpa using this
  have hone : ∀ v ∈ vs, v.oneCell' = true := fun v hv => by
    obtain ⟨i, hi⟩ := List.getElem?_of_mem hv
    have hlt : i < ys.length := by rw [← hlv]; exact (List.getElem?_eq_some_iff.1 hi).1
    obtain ⟨u, h5, h6⟩ := hy.get (List.getElem?_eq_getElem hlt)
    rw [hi] at h5
    cases h5
    exact h6.one (ho _ (List.getElem_mem hlt))
  obtain ⟨cs2, h5, h6⟩ := run_storeCells (P := P) (b := c.ρ r) (off := off) vs 0 w cs' h1 (by simp; omega) h2 hone
  simp only [Nat.add_zero] at h6
  have hs2 : cs2.size = cs'.size := by
    have := congrArg List.length h6
    simp at this
    rw [this]
    omega
  refine ⟨_, h5, Mv.set hH hn hr h1 hs2 ⟨l1.take off ++ vs ++ l1.drop (off + vs.length), l2, ?_, splice_rep h4 hy⟩⟩
  rw [h6, h3]
  rw [List.take_append_of_le_length (by omega), List.drop_append_of_le_length (by omega)]
  simp

theorem store_sound {t : TypeId} {a x : AV} {u v : Value} {H H' : Heap} (h : aStore P t a x H = some H') (ha : Rep w c a u) (hx : Rep w c x v) (hH : HRel w c H) {n : Nat} (hn : ∀ r, c.dom r → r < n) :
    ∃ w', (Instr.storeAt t u v).run P w = .ok () w' ∧ Mv w c H n w' c H' n := by
  unfold aStore at h
  split at h
  · rename_i r off cs m hcs hm
    split at h
    · rename_i b hb
      cases hc : (Nat.beq cs.length m && Nat.ble (off + m) b.cs.length && cs.all AV.one) with
      | false => simp [hc] at h
      | true =>
        rw [hc] at h
        simp only [cond_true, Option.some.injEq] at h
        subst h
        rw [Bool.and_eq_true, Bool.and_eq_true] at hc
        have h1 := Nat.eq_of_beq_eq_true hc.1.1
        have h2 := Nat.le_of_ble_eq_true hc.1.2
        obtain ⟨hd, rfl⟩ := ha
        have hcells := hx.cells hcs
        obtain ⟨w', h3, h4⟩ := write_sound (P := P) (off := off) hH hn hb hcells (by omega) (fun y hy => List.all_eq_true.1 hc.2 y hy)
        refine ⟨w', ?_, h4⟩
        unfold Instr.storeAt storeVar
        simp only [Sem.run_bind, Instr.sureAddr, Sem.run_pure, Result.andThen_ok, run_sizeOf hm]
        have := hcells.length
        simp at this
        rw [if_neg (by omega)]
        exact h3
    · cases h
  · cases h

end
end Go.Va
