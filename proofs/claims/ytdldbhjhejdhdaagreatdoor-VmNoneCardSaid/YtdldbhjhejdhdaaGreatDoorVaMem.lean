/- The abstract evaluator: operations on memory: load, what makes a block, store. -/
import Derived.Test.YtdldbhjhejdhdaaGreatDoorVaPure3
set_option linter.unusedVariables false
set_option linter.unusedSimpArgs false
namespace Go.Va

section
variable {P : Program} {w : World} {c : Ctx}

def CellsAt (w : World) (ad : Addr) (vs : List Value) : Prop := ∀ (j : Nat) (u : Value), vs[j]? = some u → w.cell? (ad.add j) = some u

theorem CellsAt.take {ad : Addr} {vs : List Value} (h : CellsAt w ad vs) (n : Nat) : CellsAt w ad (vs.take n) := fun j u hj => h j u (by
  rw [List.getElem?_take] at hj
  split at hj
  · exact hj
  · cases hj)

theorem RepRow.cells : ∀ {row : List AV} {ad : Addr}, RepRow w c row ad → ∃ vs, RepL w c row vs ∧ CellsAt w ad vs
  | [], ad, h => ⟨[], by simp [RepL], fun j u hj => by simp at hj⟩
  | x :: row, ad, h => by
    simp only [RepRow] at h
    obtain ⟨⟨y, h1, h2⟩, h3, h4⟩ := h
    obtain ⟨vs, h5, h6⟩ := RepRow.cells h4
    refine ⟨y :: vs, ⟨y, vs, rfl, h2, h5⟩, fun j u hj => ?_⟩
    cases j with
    | zero => simp at hj; subst hj; simpa [Addr.add] using h1
    | succ j =>
      have := h6 j u (by simpa using hj)
      have e : Addr.add ⟨ad.block, ad.off + 1, none⟩ j = ad.add (j + 1) := by
        unfold Addr.add
        by_cases hn : j = 0
        · subst hn; simp
        · rw [if_neg hn, if_neg (by omega)]
          simp; omega
      rwa [e] at this

theorem cell_of_block {b : Nat} {cs : Array Value} {t : TypeId} {fz : Nat × Nat} (h : w.heap[b]? = some (.cells cs t fz)) (i : Nat) : w.cell? ⟨b, i, none⟩ = cs[i]? := by
  unfold World.cell?
  simp [h]

theorem at_sound {H : Heap} {a : AV} {cs : List AV} {u : Value} (h : at? H a = some cs) (ha : Rep w c a u) (hH : HRel w c H) : ∃ ad vs, u = .pointer (some ad) ∧ RepL w c cs vs ∧ CellsAt w ad vs := by
  unfold at? at h
  split at h
  · rename_i r off
    obtain ⟨hd, rfl⟩ := ha
    split at h
    · rename_i b hb
      simp only [Option.some.injEq] at h
      subst h
      obtain ⟨_, _, cs', fz, h1, _, l1, l2, h2, h3⟩ := hH.live r b hb
      refine ⟨_, l1.drop off, rfl, h3.drop off, fun j u hj => ?_⟩
      rw [add_plain, cell_of_block h1]
      have : cs'.toList[off + j]? = some u := by
        rw [h2]
        simp only [List.getElem?_drop] at hj
        rw [List.getElem?_append_left]
        · exact hj
        · exact (List.getElem?_eq_some_iff.1 hj).1
      simpa using this
    · cases h
  · simp only [Option.some.injEq] at h
    subst h
    obtain ⟨ad, rfl, h2⟩ := ha
    obtain ⟨vs, h3, h4⟩ := h2.cells
    exact ⟨ad, vs, rfl, h3, h4⟩
  · cases h

theorem run_load_cell {a : Addr} {u : Value} (h : w.cell? a = some u) : (load a).run P w = .ok u w := by
  simp [h]

theorem run_loadCellsFrom {ad : Addr} : ∀ (n i : Nat) (vs : List Value) (acc : Array Value), vs.length = n → (∀ (j : Nat) (u : Value), vs[j]? = some u → w.cell? (ad.add (i + j)) = some u) →
    (loadCellsFrom ad i n acc).run P w = .ok (acc ++ vs.toArray) w
  | 0, i, vs, acc, hl, h => by
    have : vs = [] := by simpa using hl
    subst this
    simp [loadCellsFrom]
  | n + 1, i, vs, acc, hl, h => by
    cases vs with
    | nil => simp at hl
    | cons v vs =>
      have h0 := h 0 v rfl
      simp only [Nat.add_zero] at h0
      unfold loadCellsFrom
      rw [Sem.run_bind, run_load_cell h0]
      simp only [Result.andThen_ok]
      rw [run_loadCellsFrom n (i + 1) vs (acc.push v) (by simpa using hl) (fun j u hj => by
        have := h (j + 1) u (by simpa using hj)
        rw [show i + 1 + j = i + (j + 1) by omega]
        exact this)]
      have e : acc.push v ++ vs.toArray = acc ++ (v :: vs).toArray := by
        apply Array.toList_inj.1; simp
      rw [e]

theorem run_loadCells {ad : Addr} {vs : List Value} (h : CellsAt w ad vs) : (loadCells ad vs.length).run P w = .ok vs.toArray w := by
  unfold loadCells
  rw [run_loadCellsFrom vs.length 0 vs #[] rfl (fun j u hj => by rw [Nat.zero_add]; exact h j u hj)]
  simp

theorem loadVar_sound {t : TypeId} {cs : List AV} {ad : Addr} {vs : List Value} {x : AV} (h : aRead P t cs = some x) (hr : RepL w c cs vs) (hc : CellsAt w ad vs) :
    ∃ v, (loadVar t ad).run P w = .ok v w ∧ Rep w c x v := by
  unfold aRead at h
  split at h
  · rename_i n hn ha
    cases hb : Nat.ble n cs.length with
    | false => simp [hb] at h
    | true =>
      rw [hb] at h
      simp only [cond_true, Option.some.injEq] at h
      subst h
      have hle := Nat.le_of_ble_eq_true hb
      have hl : (vs.take n).length = n := by rw [List.length_take, hr.length]; omega
      have h1 := run_loadCells (P := P) (hc.take n)
      rw [hl] at h1
      refine ⟨.agg (vs.take n).toArray, ?_, ⟨_, rfl, by simpa using hr.take n⟩⟩
      unfold loadVar
      simp only [Sem.run_bind, run_isAgg ha, Result.andThen_ok, if_true, run_sizeOf hn, h1, Sem.run_pure]
  · rename_i n hn ha
    split at h
    · rename_i y ys
      simp only [Option.some.injEq] at h
      subst h
      obtain ⟨u, us, rfl, h1, h2⟩ := hr
      have h0 := hc 0 u rfl
      simp only [Addr.add, if_true] at h0
      refine ⟨u, ?_, h1⟩
      unfold loadVar
      rw [Sem.run_bind, run_isAgg ha]
      simp only [Result.andThen_ok, Bool.false_eq_true, if_false]
      exact run_load_cell h0
    · cases h
  · cases h

theorem load_sound {t : TypeId} {a : AV} {u : Value} {H : Heap} {x : AV} (h : aLoad P t a H = some x) (ha : Rep w c a u) (hH : HRel w c H) : ∃ v, (Instr.loadAt t u).run P w = .ok v w ∧ Rep w c x v := by
  unfold aLoad at h
  split at h
  · rename_i cs hcs
    obtain ⟨ad, vs, rfl, h1, h2⟩ := at_sound hcs ha hH
    obtain ⟨v, h3, h4⟩ := loadVar_sound h h1 h2
    exact ⟨v, by unfold Instr.loadAt; simp [Sem.run_bind, Instr.sureAddr, h3], h4⟩
  · cases h

/-! ### A new block -/

/-- Number r stands for block b. -/
def Ctx.new (c : Ctx) (r b : Nat) : Ctx := { ρ := fun s => if s = r then b else c.ρ s, dom := fun s => s = r ∨ c.dom s, own := fun x => x = b ∨ c.own x }
/-- The same, the block not yet owned. -/
def Ctx.name (c : Ctx) (r b : Nat) : Ctx := { ρ := fun s => if s = r then b else c.ρ s, dom := fun s => s = r ∨ c.dom s, own := c.own }

theorem shape_alloc_old {b : Nat} {o : Obj} (h : b < w.heap.size) : (w.alloc o).shape? b = w.shape? b := by
  unfold World.shape?
  simp only [World.alloc, Array.getElem?_push]
  rw [if_neg (by omega)]

theorem heap_alloc_old {b : Nat} {o : Obj} (h : b < w.heap.size) : (w.alloc o).heap[b]? = w.heap[b]? := by
  simp only [World.alloc, Array.getElem?_push]
  rw [if_neg (by omega)]

theorem heap_alloc_new {o : Obj} : (w.alloc o).heap[w.heap.size]? = some o := by
  show (w.heap.push o)[w.heap.size]? = some o
  rw [Array.getElem?_push, if_pos rfl]

/-- What is owned lies in the heap. -/
theorem HRel.lt {H : Heap} (h : HRel w c H) {x : Nat} (hx : c.own x) : x < w.heap.size := h.own x hx

theorem Ext.alloc {H : Heap} (hH : HRel w c H) {o : Obj} {r : Nat} (hr : ¬ c.dom r) : Ext w c (w.alloc o) (c.new r w.heap.size) where
  os := rfl
  tape := rfl
  output := rfl
  size := by simp
  dom s hs := .inr hs
  rho s hs := by
    have : s ≠ r := fun e => hr (e ▸ hs)
    simp [Ctx.new, this]
  shape b hb := shape_alloc_old hb
  keep b hb _ := heap_alloc_old hb
  own b hb ho := fun h => by
    rcases h with h | h
    · omega
    · exact ho h

theorem HRel.alloc {H : Heap} (hH : HRel w c H) {cs' : Array Value} {blk : Blk} {r : Nat} (hr : ¬ c.dom r) (hc : ∃ l1 l2, cs'.toList = l1 ++ l2 ∧ RepL w c blk.cs l1) :
    HRel (w.alloc (.cells cs' blk.t)) (c.new r w.heap.size) (hput H r blk) := by
  have hE := Ext.alloc (o := .cells cs' blk.t) hH hr
  have hne : ∀ s b, hget H s = some b → s ≠ r := fun s b hs e => hr (e ▸ (hH.live s b hs).1)
  have hρ : ∀ s b, hget H s = some b → c.ρ s < w.heap.size := fun s b hs => hH.lt (hH.live s b hs).2.1
  refine ⟨fun s b hs => ?_, fun s s' b b' hs hs' e => ?_, fun x hx => ?_⟩
  · rw [hget_hput] at hs
    split at hs
    · rename_i e
      subst e
      simp only [Option.some.injEq] at hs
      subst hs
      obtain ⟨l1, l2, hl, hc⟩ := hc
      refine ⟨.inl rfl, .inl (by simp [Ctx.new]), cs', (0, 0), ?_, fun i _ h => by omega, l1, l2, hl, RepL.mono hE _ _ hc⟩
      have : (c.new s w.heap.size).ρ s = w.heap.size := by simp [Ctx.new]
      rw [this, heap_alloc_new]
    · rename_i e
      obtain ⟨h1, h2, cs'', fz, h3, h4, l1, l2, h5, h6⟩ := hH.live s b hs
      refine ⟨.inr h1, .inr (by simpa [Ctx.new, e] using h2), cs'', fz, ?_, h4, l1, l2, h5, RepL.mono hE _ _ h6⟩
      rw [hE.rho s h1, heap_alloc_old (hρ s b hs)]
      exact h3
  · rw [hget_hput] at hs hs'
    split at hs <;> split at hs'
    · rename_i e1 e2; rw [e1, e2]
    · rename_i e1 e2
      have := hρ s' b' hs'
      simp only [Ctx.new, e1, e2, if_true, if_false] at e
      omega
    · rename_i e1 e2
      have := hρ s b hs
      simp only [Ctx.new, e1, e2, if_true, if_false] at e
      omega
    · rename_i e1 e2
      simp only [Ctx.new, e1, e2, if_false] at e
      exact hH.inj s s' b b' hs hs' e
  · rw [World.size_alloc]
    rcases hx with rfl | hx
    · omega
    · have := hH.own x hx; omega

theorem Mv.alloc {H : Heap} (hH : HRel w c H) {n : Nat} (hn : ∀ r, c.dom r → r < n) {cs' : Array Value} {blk : Blk} (hc : ∃ l1 l2, cs'.toList = l1 ++ l2 ∧ RepL w c blk.cs l1) :
    Mv w c H n (w.alloc (.cells cs' blk.t)) (c.new n w.heap.size) (hput H n blk) (n + 1) := by
  have hnd : ¬ c.dom n := fun h => by have := hn n h; omega
  refine ⟨Ext.alloc hH hnd, fun b hb _ => heap_alloc_old hb, fun b hb _ => .inr hb, fun r k hr hlt => ?_, HRel.alloc hH hnd hc, Nat.le_succ _, fun r hr => ?_⟩
  · rw [hget_hput] at hr
    split at hr
    · rename_i e; subst e; simp [Ctx.new] at hlt
    · rename_i e; exact ⟨r, k, hr, by simp [Ctx.new, e]⟩
  · rcases hr with rfl | hr
    · exact ⟨by omega, .inr (Nat.le_refl _)⟩
    · exact ⟨by have := hn r hr; omega, .inl hr⟩

/-- What an operation that makes a block makes of the world. -/
def Makes (P : Program) (w : World) (c : Ctx) (s : Sem Value) (r : Nat) (blk : Blk) (x : AV) : Prop :=
  ∃ cs' u, s.run P w = .ok u (w.alloc (.cells cs' blk.t)) ∧ RepL w c blk.cs cs'.toList ∧
    ∀ c' w', c'.dom r → c'.ρ r = w.heap.size → w'.shape? w.heap.size = some (blk.t, cs'.size) → Rep w' c' x u

theorem run_newRow {e : TypeId} {cells : Array Value} : (newRow e cells).run P w = .ok ⟨w.heap.size, 0, none⟩ (w.alloc (.cells cells e)) := by
  unfold newRow
  rw [Sem.run_bind, run_newObj]
  rfl

theorem zero_range (z : Array Value) (sz : Nat) (hz : z.size = sz) : ∀ n, ((Array.range (n * sz)).map (z[· % z.size]!)).toList = (List.replicate n z.toList).flatten
  | 0 => by simp
  | n + 1 => by
    rw [List.replicate_succ', List.flatten_append, ← zero_range z sz hz n]
    simp only [List.flatten_cons, List.flatten_nil, List.append_nil]
    apply List.ext_getElem?
    intro i
    simp only [Array.toList_map, Array.toList_range, List.getElem?_map]
    rw [List.getElem?_append]
    simp only [List.length_map, List.length_range, List.getElem?_map]
    by_cases h1 : i < n * sz
    · rw [if_pos h1]
      rw [List.getElem?_range (by rw [Nat.succ_mul]; omega), List.getElem?_range h1]
    · rw [if_neg h1]
      by_cases h2 : i < (n + 1) * sz
      · rw [List.getElem?_range h2]
        have h3 : i - n * sz < sz := by rw [Nat.succ_mul] at h2; omega
        have h4 : i % z.size = i - n * sz := by
          rw [hz]
          have : i = (i - n * sz) + n * sz := by omega
          rw [this, Nat.add_mul_mod_self_right, Nat.mod_eq_of_lt (by omega)]
          omega
        simp only [Option.map_some, h4]
        rw [getElem!_pos z _ (by omega)]
        simp [hz, h3]
      · rw [List.getElem?_eq_none (by simpa using h2)]
        rw [Nat.succ_mul] at h2
        simp
        omega

theorem zeroRow_rep {z : Array Value} : ∀ n, RepL w c (zeroRow (z.toList.map .v) n) (List.replicate n z.toList).flatten
  | 0 => by simp [zeroRow, RepL]
  | n + 1 => by
    simp only [zeroRow, List.replicate_succ, List.flatten_cons]
    exact (RepL.vs _).append (zeroRow_rep n)

theorem splice_length {cs vs : List AV} {off : Nat} (h : off + vs.length ≤ cs.length) : (splice cs off vs).length = cs.length := by
  unfold splice
  simp
  omega

theorem fill_length {place : Nat → Option (Nat × Nat)} : ∀ {parts : List (Nat × AV)} {cells res : List AV}, aFill place cells parts = some res → res.length = cells.length
  | [], cells, res, h => by simp only [aFill, Option.some.injEq] at h; rw [h]
  | (i, x) :: rest, cells, res, h => by
    simp only [aFill] at h
    split at h
    · rename_i off size cs hpl hcs
      cases hb : (Nat.beq cs.length size && Nat.ble (off + cs.length) cells.length) with
      | false => simp [hb] at h
      | true =>
        rw [hb] at h
        simp only [cond_true] at h
        rw [Bool.and_eq_true] at hb
        rw [fill_length h, splice_length (Nat.le_of_ble_eq_true hb.2)]
    · cases h

theorem zeroRow_length {z : List AV} : ∀ n, (zeroRow z n).length = n * z.length
  | 0 => by simp [zeroRow]
  | n + 1 => by simp [zeroRow, zeroRow_length n, Nat.succ_mul]; omega

theorem wrap_small {n : Int} (h0 : 0 ≤ n) (h1 : n ≤ 2 ^ 62) : IntKind.i64.wrap n = n := by
  unfold IntKind.wrap
  simp only [IntKind.bits, IntKind.signed]
  have h2 : n % (2 ^ 64 : Int) = n := Int.emod_eq_of_lt h0 (by omega)
  simp only [h2]
  rw [if_neg]
  simp
  omega

theorem alloc_sound {o : Oper} {ev : Operand → AV} {ρ : Operand → Value} {r : Nat} {bx : Blk × AV} (h : aAlloc P o.op ev r = some bx) (hops : ∀ y ∈ o.op.operands, Rep w c (ev y) (ρ y)) :
    ∃ cs' u, (execOp ρ o).run P w = .ok (.value u) (w.alloc (.cells cs' bx.1.t)) ∧ RepL w c bx.1.cs cs'.toList ∧
    ∀ c' w', c'.dom r → c'.ρ r = w.heap.size → w'.shape? w.heap.size = some (bx.1.t, cs'.size) → Rep w' c' bx.2 u := by
  obtain ⟨dst, op, type, pos, after, guard⟩ := o
  unfold aAlloc at h
  simp only at h hops
  split at h
  · rename_i elem
    simp only [Option.map_eq_some_iff] at h
    obtain ⟨z, hz, rfl⟩ := h
    obtain ⟨v, h1, rfl⟩ := run_zeroValue (w := w) hz
    refine ⟨v.cells, .pointer (some ⟨w.heap.size, 0, none⟩), ?_, RepL.vs _, fun c' w' hd hr _ => ⟨hd, by rw [hr]⟩⟩
    simp [execOp, Instr.alloc, Sem.run_bind, h1, newVar, run_newRow]
  · rename_i elem y
    simp only [Option.map_eq_some_iff] at h
    obtain ⟨cs, hcs, rfl⟩ := h
    refine ⟨(ρ y).cells, .pointer (some ⟨w.heap.size, 0, none⟩), ?_, (hops y (by simp [Op.operands])).cells hcs, fun c' w' hd hr _ => ⟨hd, by rw [hr]⟩⟩
    simp [execOp, Instr.box, Sem.run_bind, newVar, run_newRow]
  · rename_i t len parts
    split at h
    · rename_i elem hu
      split at h
      · rename_i sz z hs hz
        cases hb : (Nat.ble (len * sz) (2 ^ 24) && Nat.beq z.length sz) with
        | false => simp [hb] at h
        | true =>
          rw [hb] at h
          simp only [cond_true, Option.map_eq_some_iff] at h
          obtain ⟨cs, hf, rfl⟩ := h
          rw [Bool.and_eq_true] at hb
          have hb1 := Nat.le_of_ble_eq_true hb.1
          have hb2 := Nat.eq_of_beq_eq_true hb.2
          obtain ⟨v, h1, rfl⟩ := run_zeroValue (w := w) hz
          have hvs : v.cells.size = sz := by simpa using hb2
          have hrow : RepL w c (zeroRow (v.cells.toList.map .v) len) ((Array.range (len * sz)).map (v.cells[· % v.cells.size]!)).toList := by
            rw [zero_range _ _ hvs]; exact zeroRow_rep len
          obtain ⟨rr, h2, h3⟩ := fill_sound (w := w) (c := c) hf (parts_ok (ρ := ρ) (by simpa [Op.operands] using hops)) hrow
          refine ⟨rr, .slice (some ⟨w.heap.size, 0, none⟩) len len, ?_, h3, fun c' w' hd hr hsh => ⟨hd, len, by rw [hr], ⟨rfl, Nat.le_refl _⟩, _, _, by rw [hr]; exact hsh, ?_⟩⟩
          · simp only [execOp, Instr.buildSlice, Sem.run_bind, run_underlying hu, Result.andThen_ok, run_sizeOf hs]
            rw [if_neg (by omega)]
            simp only [Sem.run_bind, Sem.run_pure, Result.andThen_ok]
            by_cases h0 : len * sz = 0
            · rw [if_pos h0]
              have e0 : (Array.map (fun x => v.cells[x % v.cells.size]!) (Array.range (len * sz))) = (Array.map (fun x => (#[] : Array Value)[x % (#[] : Array Value).size]!) (Array.range (len * sz))) := by
                rw [h0]; simp
              rw [e0] at h2
              simp only [Sem.run_pure, Result.andThen_ok, h2, Sem.run_bind, run_newRow]
            · rw [if_neg h0]
              simp only [Sem.run_bind, h1, Sem.run_pure, Result.andThen_ok, h2, run_newRow]
          · have hl := h3.length
            have hfl : cs.length = len * sz := by
              rw [fill_length hf, zeroRow_length, hb2]
            simp at hl
            omega
      · cases h
    · cases h
  · rename_i t l cc
    split at h
    · rename_i elem hu
      split at h
      · rename_i sz z i k1 l' k2 c' hs hz hi hl hc
        split at h
        · rename_i hb
          obtain ⟨hb0, hb1, hb2, hb3⟩ := hb
          cases hb4 : Nat.beq z.length sz with
          | false => simp [hb4] at h
          | true =>
            rw [hb4] at h
            simp only [cond_true, Option.some.injEq] at h
            subst h
            have hb5 := Nat.eq_of_beq_eq_true hb4
            obtain ⟨v, h1, rfl⟩ := run_zeroValue (w := w) hz
            have hvs : v.cells.size = sz := by simpa using hb5
            have hlv := hops l (by simp [Op.operands])
            have hcv := hops cc (by simp [Op.operands])
            rw [hl] at hlv
            rw [hc] at hcv
            simp only [Rep] at hlv hcv
            have hrow : RepL w c (zeroRow (v.cells.toList.map .v) c'.toNat) ((Array.range (c'.toNat * sz)).map (v.cells[· % v.cells.size]!)).toList := by
              rw [zero_range _ _ hvs]; exact zeroRow_rep _
            have hlen := hrow.length
            refine ⟨(Array.range (c'.toNat * sz)).map (v.cells[· % v.cells.size]!), .slice (some ⟨w.heap.size, 0, none⟩) l'.toNat c'.toNat, ?_, hrow,
              fun c'' w' hd hr hsh => ⟨hd, c'.toNat, by rw [hr], ⟨rfl, by omega⟩, _, _, by rw [hr]; exact hsh, ?_⟩⟩
            · simp only [execOp, Instr.makeSlice, Sem.run_bind, run_underlying hu, Result.andThen_ok, hlv, hcv, asInt, asIntOf, Sem.run_pure, run_typeInfo hi, wrap_small hb0 (by omega : l' ≤ 2 ^ 62), wrap_small (by omega : 0 ≤ c') hb3]
              have hn1 : ¬ (c' < 0) := by omega
              have hn2 : ¬ ((i.bytes : Int) * c' > 2 ^ 48) := by omega
              have hn3 : ¬ (l' < 0) := by omega
              have hn4 : ¬ (l' > c') := by omega
              simp only [hn1, hn2, hn3, hn4, decide_false, Bool.or_self, Bool.false_or, Bool.false_eq_true, if_false, or_self]
              simp only [Sem.run_bind, run_askRoom, Result.andThen_ok, run_sizeOf hs]
              by_cases h0 : c'.toNat * sz = 0
              · rw [if_pos h0]
                have e0 : (Array.map (fun x => v.cells[x % v.cells.size]!) (Array.range (c'.toNat * sz))) = (Array.map (fun x => (#[] : Array Value)[x % (#[] : Array Value).size]!) (Array.range (c'.toNat * sz))) := by
                  rw [h0]; simp
                rw [e0]
                simp only [Sem.run_pure, Result.andThen_ok, Sem.run_bind, run_newRow]
              · rw [if_neg h0]
                simp only [Sem.run_bind, h1, Sem.run_pure, Result.andThen_ok, run_newRow]
            · simp
        · cases h
      · cases h
    · cases h
  · cases h

end
end Go.Va
