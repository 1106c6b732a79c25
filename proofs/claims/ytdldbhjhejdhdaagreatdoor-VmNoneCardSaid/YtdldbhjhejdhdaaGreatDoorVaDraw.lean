/- The abstract evaluator: a region that draws its order: the canonical run. -/
import Derived.Test.YtdldbhjhejdhdaaGreatDoorVaEq
set_option linter.unusedVariables false
set_option linter.unusedSimpArgs false
namespace Go.Va

theorem predsOf_get {ops : Array Oper} {j : Nat} {o : Oper} (h : ops[j]? = some o) : (predsOf ops).getD j [] = preds o := by
  unfold predsOf
  rw [List.getD_eq_getElem?_getD, List.getElem?_map, Array.getElem?_toList, h]
  rfl

theorem filter_lt {p q : Nat → Bool} (h : ∀ x, q x = true → p x = true) {i : Nat} (hp : p i = true) (hq : q i = false) : ∀ (l : List Nat), i ∈ l → (l.filter q).length < (l.filter p).length
  | x :: l, hi => by
    have hle : ∀ l : List Nat, (l.filter q).length ≤ (l.filter p).length := by
      intro l
      induction l with
      | nil => simp
      | cons y l ih =>
        simp only [List.filter_cons]
        cases hy : q y with
        | true => simp [h y hy]; exact ih
        | false => cases p y <;> simp <;> omega
    simp only [List.filter_cons]
    by_cases e : i = x
    · subst e
      simp only [hp, hq, if_true, Bool.false_eq_true, if_false, List.length_cons]
      exact Nat.lt_succ_of_le (hle l)
    · have hi' : i ∈ l := (List.mem_cons.1 hi).resolve_left e
      have ih := filter_lt h hp hq l hi'
      cases hy : q x with
      | true => simp [h x hy]; exact ih
      | false => cases p x <;> simp <;> omega

theorem ready_none {ops : Array Oper} {listed : Array Bool} {S : List Nat} (hsz : listed.size = ops.size) (hS : ∀ j, j ∈ S ↔ listed.getD j false = true) (hr : Region.ready .any ops listed = []) :
    ∀ (l S0 : List Nat), Lin ops.size (predsOf ops) S0 l → (∀ x ∈ S0, x ∈ S) → ∀ j, j < ops.size → j ∈ S
  | [], S0, h, h0, j, hj => h0 j (h j hj)
  | i :: l, S0, h, h0, j, hj => by
    have hi : i ∈ S := by
      cases hb : listed.getD i false with
      | true => exact (hS i).2 hb
      | false =>
        have hlt : i < listed.size := by rw [hsz]; exact h.1
        have hmem : i ∈ Region.ready .any ops listed := mem_ready.2 ⟨by
            simp [hlt] at hb ⊢; exact hb, ops[i]'h.1, Array.getElem?_eq_getElem h.1, fun e he hbd => (hS _).1 (h0 _ (h.2.2.1 _ (by
              rw [predsOf_get (Array.getElem?_eq_getElem h.1)]
              unfold preds
              exact List.mem_map.2 ⟨e, List.mem_filter.2 ⟨by simpa using he, hbd⟩, rfl⟩)))⟩
        rw [hr] at hmem
        cases hmem
    exact ready_none hsz hS hr l _ h.2.2.2 (fun x hx => (List.mem_cons.1 hx).elim (fun e => e ▸ hi) (h0 x)) j hj

theorem lin_go {ops : Array Oper} {π : List Nat} (hπ : Lin ops.size (predsOf ops) [] π) : ∀ (fuel t : Nat) (listed : Array Bool) (S : List Nat), listed.size = ops.size → (∀ j, j ∈ S ↔ listed.getD j false = true) →
    (π.filter (fun j => !listed.getD j false)).length ≤ fuel → Lin ops.size (predsOf ops) S (Region.linearise.go .any ops fuel t listed [])
  | 0, t, listed, S, hsz, hS, hf => by
    simp only [Region.linearise.go, List.reverse_nil, Lin]
    intro j hj
    have hn : π.filter (fun j => !listed.getD j false) = [] := List.eq_nil_of_length_eq_zero (by omega)
    rcases Lin.all π [] hπ j hj with h | h
    · cases h
    · rw [hS]
      rw [List.filter_eq_nil_iff] at hn
      simpa using hn j h
  | fuel + 1, t, listed, S, hsz, hS, hf => by
    simp only [Region.linearise.go]
    change Lin ops.size (predsOf ops) S (match (Region.ready .any ops listed)[t % (Region.ready .any ops listed).length]? with
      | some i => Region.linearise.go .any ops fuel (t / (Region.ready .any ops listed).length) (listed.setIfInBounds i true) [i]
      | none => [].reverse)
    cases hi : (Region.ready .any ops listed)[t % (Region.ready .any ops listed).length]? with
    | none =>
      have hnil : Region.ready .any ops listed = [] := by
        cases hr : Region.ready .any ops listed with
        | nil => rfl
        | cons x xs =>
          rw [hr] at hi
          have hlt : t % (x :: xs).length < (x :: xs).length := Nat.mod_lt _ (by simp)
          simp at hi
          simp at hlt
          omega
      exact ready_none hsz hS hnil π [] hπ (fun x hx => by cases hx)
    | some i =>
      simp only
      have hm := List.mem_of_getElem? hi
      obtain ⟨hun, o, ho, hall⟩ := mem_ready.1 hm
      have hlt : i < ops.size := (Array.getElem?_eq_some_iff.1 ho).1
      have hlt' : i < listed.size := by rw [hsz]; exact hlt
      have hf0 : listed.getD i false = false := by simp [hlt'] at hun ⊢; exact hun
      have hset : ∀ j, (listed.setIfInBounds i true).getD j false = true ↔ j = i ∨ listed.getD j false = true := fun j => by
        by_cases e : i = j
        · subst e; simp [hlt']
        · rw [getD_set_ne false e]; simp [Ne.symm e]
      rw [linearise_go_acc, List.reverse_singleton, List.singleton_append]
      have hni : i ∉ S := fun h => by rw [hS, hf0] at h; cases h
      refine ⟨hlt, hni, fun e he => ?_, ?_⟩
      · rw [predsOf_get ho] at he
        unfold preds at he
        obtain ⟨g, hg, rfl⟩ := List.mem_map.1 he
        obtain ⟨hg1, hg2⟩ := List.mem_filter.1 hg
        exact (hS _).2 (hall g (by simpa using hg1) hg2)
      · refine lin_go hπ fuel _ _ (i :: S) (by simpa using hsz) (fun j => ?_) ?_
        · rw [hset, List.mem_cons, hS]
        · have := filter_lt (p := fun j => !listed.getD j false) (q := fun j => !(listed.setIfInBounds i true).getD j false) (i := i) (fun x hx => by
            cases hb : listed.getD x false with
            | false => rfl
            | true => have := (hset x).2 (.inr hb); simp only [this] at hx; cases hx) (by simp only [hf0]; rfl) (by simp only [(hset i).2 (.inl rfl)]; rfl) π ((Lin.all π [] hπ i hlt).resolve_left (by simp))
          omega

theorem lin_schedule {ops : Array Oper} {π : List Nat} (hπ : Lin ops.size (predsOf ops) [] π) (h0 : π.length ≤ ops.size) (t : Nat) : Lin ops.size (predsOf ops) [] (Region.schedule true ops t) := by
  refine lin_go hπ ops.size t (Array.replicate ops.size false) [] (by simp) (fun j => ?_) ?_
  · by_cases h : j < ops.size <;> simp [h]
  · exact Nat.le_trans (List.length_filter_le _ _) h0

end Go.Va
