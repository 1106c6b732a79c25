/- The abstract evaluator: how abstract values and heaps stand to the model's. -/
import Derived.Test.YtdldbhjhejdhdaaGreatDoorVaExec
set_option linter.unusedVariables false
namespace Go.Va

structure Ctx where
  ρ : Nat → Nat
  dom : Nat → Prop
  own : Nat → Prop

def CapOk (cap : Option Nat) (len k : Nat) : Prop :=
  match cap with
  | some m => k = m ∧ len ≤ m
  | none => len ≤ k

mutual
/-- The abstract value tells the concrete one. -/
def Rep (w : World) (c : Ctx) : AV → Value → Prop
  | .v x, u => u = x
  | .any, _ => True
  | .ptr r off, u => c.dom r ∧ u = .pointer (some ⟨c.ρ r, off, none⟩)
  | .rptr row, u => ∃ ad, u = .pointer (some ad) ∧ RepRow w c row ad
  | .slice r off sz len cap, u => c.dom r ∧ ∃ k, u = .slice (some ⟨c.ρ r, off, none⟩) len k ∧ CapOk cap len k ∧ ∃ t n, w.shape? (c.ρ r) = some (t, n) ∧ off + k * sz ≤ n
  | .rslice row len cap, u => ∃ ad k, u = .slice (some ad) len k ∧ CapOk cap len k ∧ RepRow w c row ad
  | .func fn fs cs, u => ∃ fs' cs', u = .func fn fs' cs' ∧ RepL w c fs fs'.toList ∧ RepL w c cs cs'.toList
  | .iface t x, u => ∃ y, u = .iface t y ∧ Rep w c x y
  | .agg cs, u => ∃ cs', u = .agg cs' ∧ RepL w c cs cs'.toList
  | .tuple vs, u => ∃ vs', u = .tuple vs' ∧ RepL w c vs vs'.toList
def RepL (w : World) (c : Ctx) : List AV → List Value → Prop
  | [], l => l = []
  | x :: xs, l => ∃ y ys, l = y :: ys ∧ Rep w c x y ∧ RepL w c xs ys
/-- A read-only row lies at an address. -/
def RepRow (w : World) (c : Ctx) : List AV → Addr → Prop
  | [], _ => True
  | x :: xs, ad => (∃ y, w.cell? ad = some y ∧ Rep w c x y) ∧ ¬ c.own ad.block ∧ RepRow w c xs ⟨ad.block, ad.off + 1, none⟩
end

/-- The private heap. -/
structure HRel (w : World) (c : Ctx) (H : Heap) : Prop where
  live : ∀ r b, hget H r = some b → c.dom r ∧ c.own (c.ρ r) ∧ ∃ cs' fz, w.heap[c.ρ r]? = some (.cells cs' b.t fz) ∧
    (∀ i, i < cs'.size → ¬ (fz.1 ≤ i ∧ i < fz.2)) ∧ ∃ l1 l2, cs'.toList = l1 ++ l2 ∧ RepL w c b.cs l1
  inj : ∀ r s b b', hget H r = some b → hget H s = some b' → c.ρ r = c.ρ s → r = s
  own : ∀ x, c.own x → x < w.heap.size

/-- What has come of the world and of what is known of it. -/
structure Ext (w : World) (c : Ctx) (w' : World) (c' : Ctx) : Prop where
  os : w'.os = w.os
  tape : w'.tape = w.tape
  output : w'.output = w.output
  size : w.heap.size ≤ w'.heap.size
  dom : ∀ r, c.dom r → c'.dom r
  rho : ∀ r, c.dom r → c'.ρ r = c.ρ r
  shape : ∀ b, b < w.heap.size → w'.shape? b = w.shape? b
  keep : ∀ b, b < w.heap.size → ¬ c.own b → w'.heap[b]? = w.heap[b]?
  own : ∀ b, b < w.heap.size → ¬ c.own b → ¬ c'.own b

theorem Ext.refl (w : World) (c : Ctx) : Ext w c w c := ⟨rfl, rfl, rfl, Nat.le_refl _, fun _ h => h, fun _ _ => rfl, fun _ _ => rfl, fun _ _ _ => rfl, fun _ _ h => h⟩

theorem Ext.trans {w w1 w2 : World} {c c1 c2 : Ctx} (h : Ext w c w1 c1) (k : Ext w1 c1 w2 c2) : Ext w c w2 c2 where
  os := k.os.trans h.os
  tape := k.tape.trans h.tape
  output := k.output.trans h.output
  size := Nat.le_trans h.size k.size
  dom r hr := k.dom r (h.dom r hr)
  rho r hr := (k.rho r (h.dom r hr)).trans (h.rho r hr)
  shape b hb := (k.shape b (Nat.lt_of_lt_of_le hb h.size)).trans (h.shape b hb)
  keep b hb ho := (k.keep b (Nat.lt_of_lt_of_le hb h.size) (h.own b hb ho)).trans (h.keep b hb ho)
  own b hb ho := k.own b (Nat.lt_of_lt_of_le hb h.size) (h.own b hb ho)

theorem lt_of_cell {w : World} {a : Addr} {u : Value} (h : w.cell? a = some u) : a.block < w.heap.size := by
  unfold World.cell? at h
  cases hb : w.heap[a.block]? with
  | none => simp [hb] at h
  | some o => exact (Array.getElem?_eq_some_iff.1 hb).1

theorem Ext.cell {w w' : World} {c c' : Ctx} (h : Ext w c w' c') {a : Addr} {u : Value} (hu : w.cell? a = some u) (ho : ¬ c.own a.block) : w'.cell? a = some u := by
  have hl := lt_of_cell hu
  unfold World.cell? at *
  rw [h.keep _ hl ho]
  exact hu

theorem lt_of_shape {w : World} {b : Nat} {x : TypeId × Nat} (h : w.shape? b = some x) : b < w.heap.size := by
  unfold World.shape? at h
  cases hb : w.heap[b]? with
  | none => simp [hb] at h
  | some o => exact (Array.getElem?_eq_some_iff.1 hb).1

mutual
theorem Rep.mono {w w' : World} {c c' : Ctx} (h : Ext w c w' c') : ∀ (x : AV) (u : Value), Rep w c x u → Rep w' c' x u
  | .v x, u, hr => by simpa [Rep] using hr
  | .any, u, hr => by simp [Rep]
  | .ptr r off, u, hr => by
    simp only [Rep] at *
    exact ⟨h.dom _ hr.1, by rw [h.rho _ hr.1]; exact hr.2⟩
  | .rptr row, u, hr => by
    simp only [Rep] at *
    obtain ⟨ad, h1, h2⟩ := hr
    exact ⟨ad, h1, RepRow.mono h row ad h2⟩
  | .slice r off sz len cap, u, hr => by
    simp only [Rep] at *
    obtain ⟨hd, k, h1, h2, t, n, h3, h4⟩ := hr
    rw [h.rho _ hd]
    exact ⟨h.dom _ hd, k, h1, h2, t, n, by rw [h.shape _ (lt_of_shape h3)]; exact h3, h4⟩
  | .rslice row len cap, u, hr => by
    simp only [Rep] at *
    obtain ⟨ad, k, h1, h2, h3⟩ := hr
    exact ⟨ad, k, h1, h2, RepRow.mono h row ad h3⟩
  | .func fn fs cs, u, hr => by
    simp only [Rep] at *
    obtain ⟨fs', cs', h1, h2, h3⟩ := hr
    exact ⟨fs', cs', h1, RepL.mono h _ _ h2, RepL.mono h _ _ h3⟩
  | .iface t x, u, hr => by
    simp only [Rep] at *
    obtain ⟨y, h1, h2⟩ := hr
    exact ⟨y, h1, Rep.mono h _ _ h2⟩
  | .agg cs, u, hr => by
    simp only [Rep] at *
    obtain ⟨cs', h1, h2⟩ := hr
    exact ⟨cs', h1, RepL.mono h _ _ h2⟩
  | .tuple cs, u, hr => by
    simp only [Rep] at *
    obtain ⟨cs', h1, h2⟩ := hr
    exact ⟨cs', h1, RepL.mono h _ _ h2⟩
theorem RepL.mono {w w' : World} {c c' : Ctx} (h : Ext w c w' c') : ∀ (xs : List AV) (l : List Value), RepL w c xs l → RepL w' c' xs l
  | [], l, hr => by simpa [RepL] using hr
  | x :: xs, l, hr => by
    simp only [RepL] at *
    obtain ⟨y, ys, h1, h2, h3⟩ := hr
    exact ⟨y, ys, h1, Rep.mono h _ _ h2, RepL.mono h _ _ h3⟩
theorem RepRow.mono {w w' : World} {c c' : Ctx} (h : Ext w c w' c') : ∀ (xs : List AV) (ad : Addr), RepRow w c xs ad → RepRow w' c' xs ad
  | [], ad, hr => by simp [RepRow]
  | x :: xs, ad, hr => by
    simp only [RepRow] at *
    obtain ⟨⟨y, h1, h2⟩, h3, h4⟩ := hr
    exact ⟨⟨y, h.cell h1 h3, Rep.mono h _ _ h2⟩, h.own _ (lt_of_cell h1) h3, RepRow.mono h _ _ h4⟩
end

/-! ### Lists -/

theorem RepL.length {w : World} {c : Ctx} : ∀ {xs : List AV} {l : List Value}, RepL w c xs l → l.length = xs.length
  | [], l, h => by simp only [RepL] at h; simp [h]
  | x :: xs, l, h => by
    simp only [RepL] at h
    obtain ⟨y, ys, rfl, _, h2⟩ := h
    simp [h2.length]

theorem RepL.get {w : World} {c : Ctx} : ∀ {xs : List AV} {l : List Value} {i : Nat} {x : AV}, RepL w c xs l → xs[i]? = some x → ∃ u, l[i]? = some u ∧ Rep w c x u
  | [], l, i, x, h, hx => by simp at hx
  | y :: xs, l, 0, x, h, hx => by
    simp only [RepL] at h
    obtain ⟨u, ys, rfl, h1, _⟩ := h
    simp at hx
    exact ⟨u, by simp, hx ▸ h1⟩
  | y :: xs, l, i + 1, x, h, hx => by
    simp only [RepL] at h
    obtain ⟨u, ys, rfl, _, h2⟩ := h
    simp at hx
    simpa using h2.get hx

theorem RepL.append {w : World} {c : Ctx} : ∀ {xs ys : List AV} {l m : List Value}, RepL w c xs l → RepL w c ys m → RepL w c (xs ++ ys) (l ++ m)
  | [], ys, l, m, h, h' => by simp only [RepL] at h; simpa [h] using h'
  | x :: xs, ys, l, m, h, h' => by
    simp only [RepL] at h
    obtain ⟨u, us, rfl, h1, h2⟩ := h
    exact ⟨u, us ++ m, rfl, h1, h2.append h'⟩

theorem RepL.take {w : World} {c : Ctx} : ∀ {xs : List AV} {l : List Value} (n : Nat), RepL w c xs l → RepL w c (xs.take n) (l.take n)
  | _, _, 0, _ => by simp [RepL]
  | [], l, n + 1, h => by simp only [RepL] at h; simp [h, RepL]
  | x :: xs, l, n + 1, h => by
    simp only [RepL] at h
    obtain ⟨u, us, rfl, h1, h2⟩ := h
    exact ⟨u, us.take n, rfl, h1, h2.take n⟩

theorem RepL.drop {w : World} {c : Ctx} : ∀ {xs : List AV} {l : List Value} (n : Nat), RepL w c xs l → RepL w c (xs.drop n) (l.drop n)
  | _, _, 0, h => by simpa using h
  | [], l, n + 1, h => by simp only [RepL] at h; simp [h, RepL]
  | x :: xs, l, n + 1, h => by
    simp only [RepL] at h
    obtain ⟨u, us, rfl, h1, h2⟩ := h
    simpa using h2.drop n

theorem RepL.set {w : World} {c : Ctx} : ∀ {xs : List AV} {l : List Value} {x : AV} {u : Value} (i : Nat), RepL w c xs l → Rep w c x u → RepL w c (xs.set i x) (l.set i u)
  | [], l, x, u, i, h, hx => by simp only [RepL] at h; simp [h, RepL]
  | y :: xs, l, x, u, 0, h, hx => by
    simp only [RepL] at h
    obtain ⟨v, us, rfl, h1, h2⟩ := h
    exact ⟨u, us, rfl, hx, h2⟩
  | y :: xs, l, x, u, i + 1, h, hx => by
    simp only [RepL] at h
    obtain ⟨v, us, rfl, h1, h2⟩ := h
    exact ⟨v, us.set i u, rfl, h1, h2.set i hx⟩

theorem RepL.vs {w : World} {c : Ctx} : ∀ (l : List Value), RepL w c (l.map .v) l
  | [] => by simp [RepL]
  | x :: l => ⟨x, l, rfl, by simp [Rep], RepL.vs l⟩

theorem RepL.replicate {w : World} {c : Ctx} {x : AV} {u : Value} (h : Rep w c x u) : ∀ n, RepL w c (List.replicate n x) (List.replicate n u)
  | 0 => by simp [RepL]
  | n + 1 => ⟨u, List.replicate n u, rfl, h, RepL.replicate h n⟩

theorem RepL.map {w : World} {c : Ctx} {α : Type} {f : α → AV} {g : α → Value} : ∀ (l : List α), (∀ x ∈ l, Rep w c (f x) (g x)) → RepL w c (l.map f) (l.map g)
  | [], _ => by simp [RepL]
  | x :: l, h => ⟨g x, l.map g, rfl, h x (by simp), RepL.map l fun y hy => h y (by simp [hy])⟩

theorem Rep.undef {w : World} {c : Ctx} : Rep w c undefA undef := ⟨#[], rfl, by simp [RepL]⟩

theorem Rep.norm {w : World} {c : Ctx} {x : AV} {u : Value} (h : Rep w c x u) : Rep w c x.norm u := by
  cases x with
  | v y =>
    simp only [Rep] at h
    subst h
    cases u with
    | agg cs => exact ⟨cs, rfl, RepL.vs _⟩
    | tuple cs => exact ⟨cs, rfl, RepL.vs _⟩
    | iface t y => exact ⟨y, rfl, rfl⟩
    | func fn a b => exact ⟨a, b, rfl, RepL.vs _, RepL.vs _⟩
    | _ => rfl
  | _ => exact h

/-- The cells of a value. -/
theorem Rep.cells {w : World} {c : Ctx} {x : AV} {u : Value} {cs : List AV} (h : Rep w c x u) (hc : x.cells? = some cs) : RepL w c cs u.cells.toList := by
  cases x with
  | v y =>
    simp only [Rep] at h
    subst h
    cases u <;> simp only [AV.cells?, Option.some.injEq] at hc <;> subst hc <;> simp only [Value.cells]
    case agg cs => exact RepL.vs _
    all_goals exact ⟨_, [], rfl, rfl, rfl⟩
  | any => simp [AV.cells?] at hc
  | agg cs' =>
    simp only [AV.cells?, Option.some.injEq] at hc
    subst hc
    obtain ⟨l, rfl, h2⟩ := h
    exact h2
  | ptr r off => simp only [AV.cells?, Option.some.injEq] at hc; subst hc; obtain ⟨h1, rfl⟩ := h; exact ⟨_, [], rfl, ⟨h1, rfl⟩, rfl⟩
  | rptr row => simp only [AV.cells?, Option.some.injEq] at hc; subst hc; obtain ⟨ad, rfl, h2⟩ := h; exact ⟨_, [], rfl, ⟨ad, rfl, h2⟩, rfl⟩
  | slice r off sz len cap => simp only [AV.cells?, Option.some.injEq] at hc; subst hc; obtain ⟨h1, k, rfl, h2⟩ := h; exact ⟨_, [], rfl, ⟨h1, k, rfl, h2⟩, rfl⟩
  | rslice row len cap => simp only [AV.cells?, Option.some.injEq] at hc; subst hc; obtain ⟨ad, k, rfl, h2⟩ := h; exact ⟨_, [], rfl, ⟨ad, k, rfl, h2⟩, rfl⟩
  | func fn fs cs' => simp only [AV.cells?, Option.some.injEq] at hc; subst hc; obtain ⟨a, b, rfl, h2⟩ := h; exact ⟨_, [], rfl, ⟨a, b, rfl, h2⟩, rfl⟩
  | iface t x => simp only [AV.cells?, Option.some.injEq] at hc; subst hc; obtain ⟨y, rfl, h2⟩ := h; exact ⟨_, [], rfl, ⟨y, rfl, h2⟩, rfl⟩
  | tuple vs => simp only [AV.cells?, Option.some.injEq] at hc; subst hc; obtain ⟨l, rfl, h2⟩ := h; exact ⟨_, [], rfl, ⟨l, rfl, h2⟩, rfl⟩

theorem Rep.one {w : World} {c : Ctx} {x : AV} {u : Value} (h : Rep w c x u) (ho : x.one = true) : u.oneCell' = true := by
  cases x with
  | v y =>
    simp only [Rep] at h
    subst h
    cases u <;> simp_all [AV.one, Value.oneCell']
  | any => simp [AV.one] at ho
  | agg cs' => simp [AV.one] at ho
  | tuple cs' => simp [AV.one] at ho
  | ptr r off => obtain ⟨h1, rfl⟩ := h; rfl
  | rptr row => obtain ⟨ad, rfl, h2⟩ := h; rfl
  | slice r off sz len cap => obtain ⟨h1, k, rfl, h2⟩ := h; rfl
  | rslice row len cap => obtain ⟨ad, k, rfl, h2⟩ := h; rfl
  | func fn fs cs' => obtain ⟨a, b, rfl, h2⟩ := h; rfl
  | iface t x => obtain ⟨y, rfl, h2⟩ := h; rfl

mutual
theorem Rep.val {w : World} {c : Ctx} : ∀ (x : AV) (u v : Value), Rep w c x u → x.val? = some v → u = v
  | .v x, u, v, h, hv => by simp only [Rep] at h; simp only [AV.val?, Option.some.injEq] at hv; rw [h, hv]
  | .any, u, v, h, hv => by simp [AV.val?] at hv
  | .ptr .., u, v, h, hv => by simp [AV.val?] at hv
  | .rptr .., u, v, h, hv => by simp [AV.val?] at hv
  | .slice .., u, v, h, hv => by simp [AV.val?] at hv
  | .rslice .., u, v, h, hv => by simp [AV.val?] at hv
  | .func .., u, v, h, hv => by simp [AV.val?] at hv
  | .iface t x, u, v, h, hv => by
    simp only [Rep] at h
    obtain ⟨y, rfl, h2⟩ := h
    simp only [AV.val?, Option.map_eq_some_iff] at hv
    obtain ⟨z, hz, rfl⟩ := hv
    rw [Rep.val x y z h2 hz]
  | .agg cs, u, v, h, hv => by
    simp only [Rep] at h
    obtain ⟨y, rfl, h2⟩ := h
    simp only [AV.val?, Option.map_eq_some_iff] at hv
    obtain ⟨z, hz, rfl⟩ := hv
    rw [← RepL.vals cs y.toList z h2 hz]
  | .tuple cs, u, v, h, hv => by
    simp only [Rep] at h
    obtain ⟨y, rfl, h2⟩ := h
    simp only [AV.val?, Option.map_eq_some_iff] at hv
    obtain ⟨z, hz, rfl⟩ := hv
    rw [← RepL.vals cs y.toList z h2 hz]
theorem RepL.vals {w : World} {c : Ctx} : ∀ (xs : List AV) (l m : List Value), RepL w c xs l → AV.vals? xs = some m → l = m
  | [], l, m, h, hv => by simp only [RepL] at h; simp only [AV.vals?, Option.some.injEq] at hv; rw [h, hv]
  | x :: xs, l, m, h, hv => by
    simp only [RepL] at h
    obtain ⟨y, ys, rfl, h2, h3⟩ := h
    simp only [AV.vals?, Option.bind_eq_some_iff, Option.map_eq_some_iff] at hv
    obtain ⟨z, hz, zs, hzs, rfl⟩ := hv
    rw [Rep.val x y z h2 hz, RepL.vals xs ys zs h3 hzs]
end

theorem RepRow.drop {w : World} {c : Ctx} : ∀ {xs : List AV} {ad : Addr} (n : Nat), RepRow w c xs ad → RepRow w c (xs.drop n) (ad.add n)
  | xs, ad, 0, h => by simpa [Addr.add] using h
  | [], ad, n + 1, h => by simp [RepRow]
  | x :: xs, ad, n + 1, h => by
    simp only [RepRow] at h
    have := RepRow.drop n h.2.2
    have e : Addr.add ⟨ad.block, ad.off + 1, none⟩ n = ad.add (n + 1) := by
      unfold Addr.add
      by_cases hn : n = 0
      · subst hn; simp
      · rw [if_neg hn, if_neg (by omega)]
        simp; omega
    rw [e] at this
    simpa using this

theorem RepRow.take {w : World} {c : Ctx} : ∀ {xs : List AV} {ad : Addr} (n : Nat), RepRow w c xs ad → RepRow w c (xs.take n) ad
  | xs, ad, 0, h => by simp [RepRow]
  | [], ad, n + 1, h => by simp [RepRow]
  | x :: xs, ad, n + 1, h => by
    simp only [RepRow] at h
    exact ⟨h.1, h.2.1, RepRow.take n h.2.2⟩

/-- Cell number i of a row. -/
theorem RepRow.at_ {w : World} {c : Ctx} {xs : List AV} {ad : Addr} (h : RepRow w c xs ad) {i : Nat} {x : AV} (hx : xs[i]? = some x) : ∃ u, w.cell? (ad.add i) = some u ∧ Rep w c x u := by
  have h1 := h.drop i
  cases hd : xs.drop i with
  | nil =>
    have : xs.length ≤ i := by simpa using hd
    simp [List.getElem?_eq_none this] at hx
  | cons y ys =>
    rw [hd] at h1
    simp only [RepRow] at h1
    have : xs[i]? = some y := by
      have := congrArg (fun l => l[0]?) hd
      simpa using this
    rw [this] at hx
    cases hx
    exact h1.1

/-! ### The heap -/

theorem hget_hdel (H : Heap) (r s : Nat) : hget (hdel H r) s = if s = r then none else hget H s := by
  induction H with
  | nil => simp [hdel, hget]
  | cons e H ih =>
    obtain ⟨k, b⟩ := e
    simp only [hdel, hget]
    by_cases hk : k = r
    · subst hk
      simp only [Nat.beq_refl, cond_true, ih]
      by_cases hs : s = k
      · simp [hs]
      · have : Nat.beq k s = false := by
          cases h : Nat.beq k s with
          | false => rfl
          | true => exact absurd (Nat.eq_of_beq_eq_true h).symm hs
        simp [hs, this]
    · have h1 : Nat.beq k r = false := by
        cases h : Nat.beq k r with
        | false => rfl
        | true => exact absurd (Nat.eq_of_beq_eq_true h) hk
      simp only [h1, cond_false, hget, ih]
      by_cases hs : s = r
      · subst hs
        simp [h1]
      · simp [hs]

theorem hget_hput (H : Heap) (r s : Nat) (b : Blk) : hget (hput H r b) s = if s = r then some b else hget H s := by
  simp only [hput, hget, hget_hdel]
  by_cases hs : s = r
  · subst hs; simp
  · have : Nat.beq r s = false := by
      cases h : Nat.beq r s with
      | false => rfl
      | true => exact absurd (Nat.eq_of_beq_eq_true h).symm hs
    simp [hs, this]

theorem hget_hlow (H : Heap) (n s : Nat) : hget (hlow H n) s = if s < n then hget H s else none := by
  induction H with
  | nil => simp [hlow, hget]
  | cons e H ih =>
    obtain ⟨k, b⟩ := e
    simp only [hlow]
    by_cases hk : k < n
    · have : Nat.blt k n = true := by simpa [Nat.blt] using Nat.ble_eq_true_of_le hk
      simp only [this, cond_true, hget, ih]
      by_cases hs : k = s
      · subst hs; simp [hk]
      · have : Nat.beq k s = false := by
          cases h : Nat.beq k s with
          | false => rfl
          | true => exact absurd (Nat.eq_of_beq_eq_true h) hs
        simp [this]
    · have : Nat.blt k n = false := by
        cases h : Nat.blt k n with
        | false => rfl
        | true => exact absurd (Nat.le_of_ble_eq_true h) (by omega)
      simp only [this, cond_false, hget, ih]
      by_cases hs : s < n
      · have : Nat.beq k s = false := by
          cases h : Nat.beq k s with
          | false => rfl
          | true => have := Nat.eq_of_beq_eq_true h; omega
        simp [this]
      · simp [hs]

theorem HRel.congr {w : World} {c : Ctx} {H H' : Heap} (h : HRel w c H) (e : ∀ r, hget H' r = hget H r) : HRel w c H' where
  live r b hb := h.live r b (by rw [← e]; exact hb)
  inj r s b b' hr hs := h.inj r s b b' (by rw [← e]; exact hr) (by rw [← e]; exact hs)
  own := h.own

/-- What an operation, a call or a run of code may do: to the world, to what is known of it, to the private heap. -/
structure Mv (w : World) (c : Ctx) (H : Heap) (n : Nat) (w' : World) (c' : Ctx) (H' : Heap) (n' : Nat) : Prop where
  ext : Ext w c w' c'
  keep : ∀ b, b < w.heap.size → (∀ r k, hget H r = some k → c.ρ r ≠ b) → w'.heap[b]? = w.heap[b]?
  priv : ∀ b, c.own b → (∀ r k, hget H r = some k → c.ρ r ≠ b) → c'.own b
  img : ∀ r k, hget H' r = some k → c'.ρ r < w.heap.size → ∃ s k', hget H s = some k' ∧ c.ρ s = c'.ρ r
  rel : HRel w' c' H'
  le : n ≤ n'
  fresh : ∀ r, c'.dom r → r < n' ∧ (c.dom r ∨ n ≤ r)

theorem Mv.refl {w : World} {c : Ctx} {H : Heap} {n : Nat} (h : HRel w c H) (hn : ∀ r, c.dom r → r < n) : Mv w c H n w c H n :=
  ⟨Ext.refl _ _, fun _ _ _ => rfl, fun _ h _ => h, fun r k hr _ => ⟨r, k, hr, rfl⟩, h, Nat.le_refl _, fun r hr => ⟨hn r hr, .inl hr⟩⟩

theorem Mv.lt {w w' : World} {c c' : Ctx} {H H' : Heap} {n n' : Nat} (h : Mv w c H n w' c' H' n') : ∀ r, c'.dom r → r < n' := fun r hr => (h.fresh r hr).1

theorem Mv.trans {w w1 w2 : World} {c c1 c2 : Ctx} {H H1 H2 : Heap} {n n1 n2 : Nat} (hw : HRel w c H) (h : Mv w c H n w1 c1 H1 n1) (k : Mv w1 c1 H1 n1 w2 c2 H2 n2) : Mv w c H n w2 c2 H2 n2 := by
  have hnot : ∀ b, b < w.heap.size → (∀ r k, hget H r = some k → c.ρ r ≠ b) → ∀ r k, hget H1 r = some k → c1.ρ r ≠ b := fun b hb hl r k' hr e => by
    obtain ⟨s, k'', h1, h2⟩ := h.img r k' hr (by omega)
    exact hl s k'' h1 (h2.trans e)
  refine ⟨h.ext.trans k.ext, fun b hb hl => ?_, fun b hb hl => ?_, fun r k' hr hlt => ?_, k.rel, Nat.le_trans h.le k.le, fun r hr => ⟨(k.fresh r hr).1, ?_⟩⟩
  · exact (k.keep b (Nat.lt_of_lt_of_le hb h.ext.size) (hnot b hb hl)).trans (h.keep b hb hl)
  · exact k.priv b (h.priv b hb hl) (hnot b (hw.own b hb) hl)
  · obtain ⟨s, k'', h1, h2⟩ := k.img r k' hr (Nat.lt_of_lt_of_le hlt h.ext.size)
    obtain ⟨s', k3, h3, h4⟩ := h.img s k'' h1 (by omega)
    exact ⟨s', k3, h3, h4.trans h2⟩
  · rcases (k.fresh r hr).2 with h1 | h1
    · exact (h.fresh r h1).2
    · exact .inr (Nat.le_trans h.le h1)

/-- The heap that is told may be another with the same blocks. -/
theorem Mv.congr {w w' : World} {c c' : Ctx} {H H' H2 : Heap} {n n' : Nat} (h : Mv w c H n w' c' H' n') (e : ∀ r, hget H2 r = hget H' r) : Mv w c H n w' c' H2 n' :=
  ⟨h.ext, h.keep, h.priv, fun r k hr hlt => h.img r k (by rw [← e]; exact hr) hlt, h.rel.congr e, h.le, h.fresh⟩

end Go.Va
