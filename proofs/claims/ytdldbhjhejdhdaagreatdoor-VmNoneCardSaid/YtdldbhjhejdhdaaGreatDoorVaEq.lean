/- The abstract evaluator: what is found equal is equal; orders and bits. -/
import Derived.Test.YtdldbhjhejdhdaaGreatDoorVaCode
set_option linter.unusedVariables false
set_option linter.unusedSimpArgs false
namespace Go.Va

theorem beq_iff {a b : Nat} : Nat.beq a b = true ↔ a = b := ⟨Nat.eq_of_beq_eq_true, fun h => by subst h; simp⟩

mutual
theorem valEq_eq : ∀ (x y : Value), valEq x y = true → x = y
  | .bool a, y, h => by cases y <;> simp_all [valEq]
  | .int k a, y, h => by cases y <;> simp_all [valEq]
  | .float k a, y, h => by cases y <;> simp_all [valEq, beq_iff]
  | .complex k a b, y, h => by cases y <;> simp_all [valEq, beq_iff]
  | .string a, y, h => by
    cases y <;> simp only [valEq, Bool.false_eq_true, decide_eq_true_eq] at h
    rename_i b
    obtain ⟨⟨a⟩⟩ := a
    obtain ⟨⟨b⟩⟩ := b
    simp only at h
    rw [h]
  | .pointer a, y, h => by cases y <;> simp_all [valEq]
  | .slice a n c, y, h => by cases y <;> simp_all [valEq, beq_iff]
  | .map a, y, h => by cases y <;> simp_all [valEq]
  | .chan a, y, h => by cases y <;> simp_all [valEq]
  | .func f a b, y, h => by
    cases y <;> simp only [valEq, Bool.false_eq_true, Bool.and_eq_true, decide_eq_true_eq] at h
    rename_i g c d
    rw [h.1.1, arrEq_eq a c h.1.2, arrEq_eq b d h.2]
  | .nilFunc, y, h => by cases y <;> simp_all [valEq]
  | .iface t x, y, h => by
    cases y <;> simp only [valEq, Bool.false_eq_true, Bool.and_eq_true, beq_iff] at h
    rename_i u z
    rw [h.1, valEq_eq x z h.2]
  | .nilIface, y, h => by cases y <;> simp_all [valEq]
  | .agg a, y, h => by
    cases y <;> simp only [valEq, Bool.false_eq_true] at h
    rename_i b
    rw [arrEq_eq a b h]
  | .tuple a, y, h => by
    cases y <;> simp only [valEq, Bool.false_eq_true] at h
    rename_i b
    rw [arrEq_eq a b h]
theorem arrEq_eq : ∀ (a b : Array Value), arrEq a b = true → a = b
  | ⟨a⟩, ⟨b⟩, h => by rw [valsEq_eq a b h]
theorem valsEq_eq : ∀ (a b : List Value), valsEq a b = true → a = b
  | [], b, h => by cases b <;> simp_all [valsEq]
  | x :: xs, b, h => by
    cases b with
    | nil => simp [valsEq] at h
    | cons y ys =>
      simp only [valsEq, Bool.and_eq_true] at h
      rw [valEq_eq x y h.1, valsEq_eq xs ys h.2]
end

mutual
theorem aEq_eq : ∀ (x y : AV), aEq x y = true → x = y
  | .v x, y, h => by
    cases y <;> simp only [aEq, Bool.false_eq_true] at h
    rw [valEq_eq _ _ h]
  | .any, y, h => by cases y <;> simp_all [aEq]
  | .ptr r o, y, h => by cases y <;> simp_all [aEq, beq_iff]
  | .rptr a, y, h => by
    cases y <;> simp only [aEq, Bool.false_eq_true] at h
    rw [asEq_eq _ _ h]
  | .slice a b c d e, y, h => by cases y <;> simp_all [aEq, beq_iff]
  | .rslice a n c, y, h => by
    cases y <;> simp only [aEq, Bool.false_eq_true, Bool.and_eq_true, beq_iff, decide_eq_true_eq] at h
    rw [asEq_eq _ _ h.1.1, h.1.2, h.2]
  | .func f a b, y, h => by
    cases y <;> simp only [aEq, Bool.false_eq_true, Bool.and_eq_true, decide_eq_true_eq] at h
    rw [h.1.1, asEq_eq _ _ h.1.2, asEq_eq _ _ h.2]
  | .iface t x, y, h => by
    cases y <;> simp only [aEq, Bool.false_eq_true, Bool.and_eq_true, beq_iff] at h
    rw [h.1, aEq_eq _ _ h.2]
  | .agg a, y, h => by
    cases y <;> simp only [aEq, Bool.false_eq_true] at h
    rw [asEq_eq _ _ h]
  | .tuple a, y, h => by
    cases y <;> simp only [aEq, Bool.false_eq_true] at h
    rw [asEq_eq _ _ h]
theorem asEq_eq : ∀ (a b : List AV), asEq a b = true → a = b
  | [], b, h => by cases b <;> simp_all [asEq]
  | x :: xs, b, h => by
    cases b with
    | nil => simp [asEq] at h
    | cons y ys =>
      simp only [asEq, Bool.and_eq_true] at h
      rw [aEq_eq x y h.1, asEq_eq xs ys h.2]
end

theorem loadIs_eq {P : Program} {t : TypeId} {a v : AV} {H : Heap} (h : loadIs P t a v H = true) : aLoad P t a H = some v := by
  unfold loadIs at h
  split at h
  · rename_i u hu; rw [hu, aEq_eq _ _ h]
  · cases h

theorem hget_mem {H : Heap} {r : Nat} (h : r ∉ H.map (·.1)) : hget H r = none := by
  induction H with
  | nil => rfl
  | cons e H ih =>
    obtain ⟨k, b⟩ := e
    simp only [List.map_cons, List.mem_cons, not_or] at h
    have hb : Nat.beq k r = false := by
      cases hb : Nat.beq k r with
      | false => rfl
      | true => exact absurd (beq_iff.1 hb).symm h.1
    simp only [hget, hb, cond_false]
    exact ih h.2

theorem heapEq_eq {H K : Heap} (h : heapEq H K = true) (r : Nat) : hget H r = hget K r := by
  unfold heapEq at h
  rw [List.all_eq_true] at h
  by_cases hr : r ∈ H.map (·.1) ++ K.map (·.1)
  · have := h r hr
    unfold blkEq at this
    split at this
    · rename_i a b ha hb
      simp only [Bool.and_eq_true, beq_iff] at this
      rw [ha, hb]
      obtain ⟨a1, a2⟩ := a
      obtain ⟨b1, b2⟩ := b
      simp only at this
      rw [this.1, asEq_eq _ _ this.2]
    · rename_i ha hb; rw [ha, hb]
    · cases this
  · rw [List.mem_append, not_or] at hr
    rw [hget_mem hr.1, hget_mem hr.2]

theorem envEq_eq {E F : Env} (h : envEq E F = true) : E.N = F.N ∧ ∀ i, i < E.N → E.get i = F.get i := by
  unfold envEq at h
  simp only [Bool.and_eq_true, List.all_eq_true, List.mem_range, beq_iff] at h
  exact ⟨h.1, fun i hi => aEq_eq _ _ (h.2 i hi)⟩

/-! ### Orders -/

def Lin (n : Nat) (pr : List (List Nat)) : List Nat → List Nat → Prop
  | S, [] => ∀ j, j < n → j ∈ S
  | S, j :: l => j < n ∧ j ∉ S ∧ (∀ e ∈ pr.getD j [], e ∈ S) ∧ Lin n pr (j :: S) l

theorem linB_spec {n : Nat} {pr : List (List Nat)} : ∀ (l S : List Nat), linB n pr S l = true → Lin n pr S l
  | [], S, h => by
    simp only [linB, List.all_eq_true, List.mem_range, List.contains_iff_mem] at h
    exact fun j hj => by simpa using h j hj
  | j :: l, S, h => by
    simp only [linB, Bool.and_eq_true, List.all_eq_true] at h
    obtain ⟨⟨⟨h1, h2⟩, h3⟩, h4⟩ := h
    exact ⟨blt_iff.1 h1, by simpa using h2, fun e he => by simpa using h3 e he, linB_spec l _ h4⟩

def Bits (n : Nat) (pr : List (List Nat)) (B : List Nat) : Prop := ∀ j, j < n → ∀ i, bit B j i = true ↔ ∃ e ∈ pr.getD j [], i = e ∨ bit B e i = true

theorem foldBits_spec {B l : List Nat} {i : Nat} : (foldBits B l).testBit i = true ↔ ∃ e ∈ l, i = e ∨ bit B e i = true := by
  induction l with
  | nil => simp [foldBits]
  | cons e l ih =>
    have : foldBits B (e :: l) = foldBits B l ||| 2 ^ e ||| B.getD e 0 := rfl
    rw [this]
    simp only [Nat.testBit_or, Bool.or_eq_true, ih, Nat.testBit_two_pow, decide_eq_true_eq, List.mem_cons, exists_eq_or_imp]
    unfold bit
    constructor
    · rintro ((h | h) | h)
      · exact .inr h
      · exact .inl (.inl h.symm)
      · exact .inl (.inr h)
    · rintro ((h | h) | h)
      · exact .inl (.inr h.symm)
      · exact .inr h
      · exact .inl (.inl h)

theorem bits_of {n : Nat} {pr : List (List Nat)} {B : List Nat} (h : ((List.range n).all fun j => Nat.beq (B.getD j 0) (foldBits B (pr.getD j []))) = true) : Bits n pr B := fun j hj i => by
  rw [List.all_eq_true] at h
  have := beq_iff.1 (h j (List.mem_range.2 hj))
  unfold bit
  rw [this]
  exact foldBits_spec

def Closed (B S : List Nat) : Prop := ∀ s ∈ S, ∀ i, bit B s i = true → i ∈ S

theorem Closed.bits {n : Nat} {pr : List (List Nat)} {B S : List Nat} (hb : Bits n pr B) (h : Closed B S) {j : Nat} (hj : j < n) (hp : ∀ e ∈ pr.getD j [], e ∈ S) (i : Nat) (hi : bit B j i = true) : i ∈ S := by
  obtain ⟨e, he, rfl | h2⟩ := (hb j hj i).1 hi
  · exact hp _ he
  · exact h e (hp e he) i h2

theorem Closed.step {n : Nat} {pr : List (List Nat)} {B S : List Nat} (hb : Bits n pr B) (h : Closed B S) {j : Nat} (hj : j < n) (hp : ∀ e ∈ pr.getD j [], e ∈ S) : Closed B (j :: S) := fun s hs i hi => by
  rcases List.mem_cons.1 hs with rfl | hs
  · exact List.mem_cons_of_mem _ (h.bits hb hj hp i hi)
  · exact List.mem_cons_of_mem _ (h s hs i hi)

/-- What stands ahead of an operation of an order. -/
theorem Lin.split {n : Nat} {pr : List (List Nat)} {B : List Nat} (hb : Bits n pr B) : ∀ (l1 : List Nat) {l2 S : List Nat} {j : Nat}, Lin n pr S (l1 ++ j :: l2) → Closed B S →
    j < n ∧ j ∉ S ∧ j ∉ l1 ∧ j ∉ l2 ∧ ∀ i, bit B j i = true → i ∈ S ∨ i ∈ l1
  | [], l2, S, j, h, hc => by
    simp only [List.nil_append, Lin] at h
    obtain ⟨h1, h2, h3, h4⟩ := h
    refine ⟨h1, h2, by simp, ?_, fun i hi => .inl (hc.bits hb h1 h3 i hi)⟩
    intro hm
    have key : ∀ (l S : List Nat), Lin n pr S l → ∀ x ∈ l, x ∉ S := by
      intro l
      induction l with
      | nil => intro S _ x hx; cases hx
      | cons y l ih =>
        intro S hl x hx
        rcases List.mem_cons.1 hx with rfl | hx
        · exact hl.2.1
        · exact fun hs => ih _ hl.2.2.2 x hx (List.mem_cons_of_mem _ hs)
    exact key _ _ h4 j hm (by simp)
  | a :: l1, l2, S, j, h, hc => by
    simp only [List.cons_append, Lin] at h
    obtain ⟨h1, h2, h3, h4⟩ := h
    obtain ⟨g1, g2, g3, g4, g5⟩ := Lin.split hb l1 h4 (hc.step hb h1 h3)
    refine ⟨g1, fun hs => g2 (List.mem_cons_of_mem _ hs), ?_, g4, fun i hi => ?_⟩
    · intro hm
      rcases List.mem_cons.1 hm with rfl | hm
      · exact g2 (by simp)
      · exact g3 hm
    · rcases g5 i hi with h | h
      · rcases List.mem_cons.1 h with rfl | h
        · exact .inr (by simp)
        · exact .inl h
      · exact .inr (List.mem_cons_of_mem _ h)

theorem Lin.all {n : Nat} {pr : List (List Nat)} : ∀ (l S : List Nat), Lin n pr S l → ∀ j, j < n → j ∈ S ∨ j ∈ l
  | [], S, h, j, hj => .inl (h j hj)
  | a :: l, S, h, j, hj => by
    rcases Lin.all l _ h.2.2.2 j hj with h1 | h1
    · rcases List.mem_cons.1 h1 with rfl | h1
      · exact .inr (by simp)
      · exact .inl h1
    · exact .inr (List.mem_cons_of_mem _ h1)

theorem prAdd_get {pr : List (List Nat)} {x y j e : Nat} (h : e ∈ (prAdd pr x y).getD j []) : e ∈ pr.getD j [] ∨ (j = y ∧ e = x) := by
  unfold prAdd at h
  rw [List.getD_eq_getElem?_getD, List.getElem?_mapIdx] at h
  cases hj : pr[j]? with
  | none => simp [hj] at h
  | some l =>
    simp only [hj, Option.map_some, Option.getD_some] at h
    rw [List.getD_eq_getElem?_getD, hj]
    cases hb : Nat.beq j y with
    | true =>
      simp only [hb, cond_true, List.mem_cons] at h
      rcases h with h | h
      · exact .inr ⟨beq_iff.1 hb, h⟩
      · exact .inl h
    | false => simp only [hb, cond_false] at h; exact .inl h

theorem Lin.add {n : Nat} {pr : List (List Nat)} {x y : Nat} : ∀ (l S : List Nat), Lin n pr S l → x ∈ S → Lin n (prAdd pr x y) S l
  | [], S, h, hx => h
  | j :: l, S, h, hx => by
    refine ⟨h.1, h.2.1, fun e he => ?_, Lin.add l _ h.2.2.2 (List.mem_cons_of_mem _ hx)⟩
    rcases prAdd_get he with h1 | ⟨_, rfl⟩
    · exact h.2.2.1 e h1
    · exact hx

theorem Lin.pair {n : Nat} {pr : List (List Nat)} {x y : Nat} (hx : x < n) (hxy : x ≠ y) : ∀ (l S : List Nat), Lin n pr S l → x ∉ S → y ∉ S → Lin n (prAdd pr x y) S l ∨ Lin n (prAdd pr y x) S l
  | [], S, h, h1, h2 => absurd (h x hx) h1
  | j :: l, S, h, h1, h2 => by
    by_cases ex : j = x
    · subst ex
      refine .inl ⟨h.1, h.2.1, fun e he => ?_, Lin.add l _ h.2.2.2 (by simp)⟩
      rcases prAdd_get he with h3 | ⟨h3, _⟩
      · exact h.2.2.1 e h3
      · exact absurd h3 hxy
    · by_cases ey : j = y
      · subst ey
        refine .inr ⟨h.1, h.2.1, fun e he => ?_, Lin.add l _ h.2.2.2 (by simp)⟩
        rcases prAdd_get he with h3 | ⟨h3, _⟩
        · exact h.2.2.1 e h3
        · exact absurd h3 ex
      · rcases Lin.pair hx hxy l (j :: S) h.2.2.2 (by simp [h1, Ne.symm ex]) (by simp [h2, Ne.symm ey]) with h3 | h3
        · refine .inl ⟨h.1, h.2.1, fun e he => ?_, h3⟩
          rcases prAdd_get he with h4 | ⟨h4, _⟩
          · exact h.2.2.1 e h4
          · exact absurd h4 ey
        · refine .inr ⟨h.1, h.2.1, fun e he => ?_, h3⟩
          rcases prAdd_get he with h4 | ⟨h4, _⟩
          · exact h.2.2.1 e h4
          · exact absurd h4 ex

end Go.Va
