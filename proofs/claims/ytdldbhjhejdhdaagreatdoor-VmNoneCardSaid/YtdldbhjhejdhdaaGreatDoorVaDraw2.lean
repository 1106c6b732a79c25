/- The abstract evaluator: a region that draws its order: every order comes to what the canonical run comes to. -/
import Derived.Test.YtdldbhjhejdhdaaGreatDoorVaFrame
set_option linter.unusedVariables false
set_option linter.unusedSimpArgs false
namespace Go.Va

section
variable (P : Program) (call : Caller) (ops : Array Oper) (B : List Nat) (n0 : Nat) (π : List Nat) (d0 : DS)

def Dat (j : Nat) : DS := (dRun P call ops B n0 (π.takeWhile (· != j)) d0).getD d0

def WE (j : Nat) : Prop := ∃ o, ops[j]? = some o ∧ aWanted ops o (Dat P call ops B n0 π d0 j).tmps = some true ∧ isL o.op = false ∧ isA o.op = false ∧ isE o.op = true

def blkOf (j : Nat) : Option Blk :=
  match ops[j]? with
  | some o => if aWanted ops o (Dat P call ops B n0 π d0 j).tmps = some true ∧ isL o.op = false ∧ isA o.op = true then (aAlloc P o.op (aev (Dat P call ops B n0 π d0 j).tmps) (n0 + j)).map (·.1) else none
  | none => none

def xat (S rest : List Nat) (r : Nat) : Option Blk := if n0 ≤ r ∧ r - n0 ∈ rest ∧ r - n0 ∈ S then blkOf P call ops B n0 π d0 (r - n0) else none

structure Run (pr : List (List Nat)) (dN : DS) : Prop where
  lin : Lin ops.size pr [] π
  bits : Bits ops.size pr B
  w1 : ∀ (i j : Nat) (oi oj : Oper) (t : Nat), ops[i]? = some oi → ops[j]? = some oj → oi.dst = some t → oj.dst = some t → i = j
  w2 : ∀ (i j : Nat) (oi oj : Oper) (t : Nat), ops[i]? = some oi → ops[j]? = some oj → oi.dst = some t → t ∈ oj.looksAt ops → bit B j i = true ∨ bit B i j = true
  w3 : ∀ (i j : Nat) (oi oj : Oper), ops[i]? = some oi → ops[j]? = some oj → i ≠ j → isE oi.op = true → isE oj.op = true → bit B j i = true ∨ bit B i j = true
  run : dRun P call ops B n0 π d0 = some dN

variable {P call ops B n0 π d0} {pr : List (List Nat)} {dN : DS}

theorem Run.at_ (R : Run P call ops B n0 π d0 pr dN) {l1 l2 : List Nat} {j : Nat} (h : π = l1 ++ j :: l2) :
    ∃ d' o, dRun P call ops B n0 l1 d0 = some (Dat P call ops B n0 π d0 j) ∧ ops[j]? = some o ∧ Step P call ops B n0 j o (Dat P call ops B n0 π d0 j) d' ∧ dRun P call ops B n0 l2 d' = some dN ∧
      j ∉ l1 ∧ j ∉ l2 ∧ j < ops.size ∧ ∀ i, bit B j i = true → i ∈ l1 := by
  obtain ⟨g1, _, g3, g4, g5⟩ := Lin.split R.bits l1 (S := []) (l2 := l2) (j := j) (pr := pr) (n := ops.size) (by rw [← h]; exact R.lin) (fun s hs => by cases hs)
  have hr := R.run
  have hD : dRun P call ops B n0 (π.takeWhile (· != j)) d0 = dRun P call ops B n0 l1 d0 := by
    have : π.takeWhile (· != j) = l1 := by
      rw [h, List.takeWhile_append_of_pos (fun a ha => by simp; exact fun e => g3 (e ▸ ha))]
      simp
    rw [this]
  obtain ⟨d1, h1, h2⟩ := dRun_append l1 (j :: l2) d0 dN (by rw [← h]; exact hr)
  obtain ⟨d2, h3, h4⟩ := dRun_cons h2
  obtain ⟨o, ho, hs⟩ := step_cases h3
  have e : Dat P call ops B n0 π d0 j = d1 := by unfold Dat; rw [hD, h1]; rfl
  exact ⟨d2, o, by rw [e]; exact h1, ho, by rw [e]; exact hs, h4, g3, g4, g1, fun i hi => (g5 i hi).resolve_left (by simp)⟩

theorem Run.find (R : Run P call ops B n0 π d0 pr dN) {j : Nat} (h : j < ops.size) : ∃ l1 l2, π = l1 ++ j :: l2 :=
  List.append_of_mem ((Lin.all π [] R.lin j h).resolve_left (by simp))

theorem blk_none {j : Nat} {o : Oper} (ho : ops[j]? = some o) (h : aWanted ops o (Dat P call ops B n0 π d0 j).tmps ≠ some true ∨ isL o.op = true ∨ isA o.op = false) : blkOf P call ops B n0 π d0 j = none := by
  unfold blkOf
  rw [ho]
  simp only
  refine if_neg fun ⟨h1, h2, h3⟩ => ?_
  rcases h with h | h | h
  · exact h h1
  · rw [h2] at h; cases h
  · rw [h3] at h; cases h

theorem blk_some {j : Nat} {o : Oper} {bx : Blk × AV} (ho : ops[j]? = some o) (h1 : aWanted ops o (Dat P call ops B n0 π d0 j).tmps = some true) (h2 : isL o.op = false) (h3 : isA o.op = true)
    (h4 : aAlloc P o.op (aev (Dat P call ops B n0 π d0 j).tmps) (n0 + j) = some bx) : blkOf P call ops B n0 π d0 j = some bx.1 := by
  unfold blkOf
  rw [ho]
  simp only
  rw [if_pos ⟨h1, h2, h3⟩, h4]
  rfl

theorem not_we {j : Nat} {o : Oper} (ho : ops[j]? = some o) (h : aWanted ops o (Dat P call ops B n0 π d0 j).tmps ≠ some true ∨ isL o.op = true ∨ isA o.op = true ∨ isE o.op = false) : ¬ WE P call ops B n0 π d0 j := by
  rintro ⟨o', ho', h1, h2, h3, h4⟩
  rw [ho] at ho'
  cases ho'
  rcases h with h | h | h | h
  · exact h h1
  · rw [h2] at h; cases h
  · rw [h3] at h; cases h
  · rw [h4] at h; cases h

theorem Run.walk (R : Run P call ops B n0 π d0 pr dN) : ∀ (l pre post : List Nat) (d d' : DS), π = pre ++ (l ++ post) → dRun P call ops B n0 pre d0 = some d → dRun P call ops B n0 l d = some d' → (∀ i ∈ l, ¬ WE P call ops B n0 π d0 i) →
    d'.C = d.C ∧ d'.n = d.n ∧ ∀ k id b, (k, id, b) ∈ d'.pend ↔ (k, id, b) ∈ d.pend ∨ (k ∈ l ∧ id = n0 + k ∧ blkOf P call ops B n0 π d0 k = some b)
  | [], pre, post, d, d', hπ, h1, h2, hw => by
    simp only [dRun, Option.some.injEq] at h2
    subst h2
    exact ⟨rfl, rfl, fun k id b => by simp⟩
  | j :: l, pre, post, d, d', hπ, h1, h2, hw => by
    obtain ⟨d1, g1, g2⟩ := dRun_cons h2
    obtain ⟨o, ho, hs⟩ := step_cases g1
    obtain ⟨_, _, q1, _⟩ := R.at_ (l1 := pre) (l2 := l ++ post) (j := j) (by rw [hπ]; rfl)
    rw [h1, Option.some.injEq] at q1
    have hn := hw j (by simp)
    have h1' : dRun P call ops B n0 (pre ++ [j]) d0 = some d1 := dRun_two h1 (by simp only [dRun, g1])
    obtain ⟨i1, i2, i3⟩ := R.walk l (pre ++ [j]) post d1 d' (by rw [hπ]; simp) h1' g2 fun i hi => hw i (List.mem_cons_of_mem _ hi)
    have none_case : d1.C = d.C → d1.n = d.n → d1.pend = d.pend → blkOf P call ops B n0 π d0 j = none → d'.C = d.C ∧ d'.n = d.n ∧ ∀ k id b, (k, id, b) ∈ d'.pend ↔ (k, id, b) ∈ d.pend ∨ (k ∈ j :: l ∧ id = n0 + k ∧ blkOf P call ops B n0 π d0 k = some b) := fun e1 e2 e3 e4 => by
      refine ⟨i1.trans e1, i2.trans e2, fun k id b => ?_⟩
      rw [i3, e3]
      refine or_congr Iff.rfl ⟨fun ⟨a1, a2, a3⟩ => ⟨List.mem_cons_of_mem _ a1, a2, a3⟩, fun ⟨a1, a2, a3⟩ => ?_⟩
      rcases List.mem_cons.1 a1 with rfl | a1
      · rw [e4] at a3; cases a3
      · exact ⟨a1, a2, a3⟩
    rw [q1] at hs
    cases hs with
    | skip hw' => exact none_case (by rw [q1]) (by rw [q1]) (by rw [q1]) (blk_none ho (.inl (by rw [hw']; simp)))
    | load t a v hw' hL hop hv hb => exact none_case (by rw [q1]) (by rw [q1]) (by rw [q1]) (blk_none ho (.inr (.inl hL)))
    | pure x hw' hL hA hE hx => exact none_case (by rw [q1]) (by rw [q1]) (by rw [q1]) (blk_none ho (.inr (.inr hA)))
    | eff x H n hw' hL hA hE hp hx hl => exact absurd ⟨o, ho, hw', hL, hA, hE⟩ hn
    | alloc bx hw' hL hA hx =>
      have hb := blk_some ho hw' hL hA hx
      refine ⟨i1.trans (by rw [q1]), i2.trans (by rw [q1]), fun k id b => ?_⟩
      rw [i3, List.mem_cons, List.mem_cons, q1]
      constructor
      · rintro ((h | h) | ⟨a1, a2, a3⟩)
        · simp only [Prod.mk.injEq] at h
          obtain ⟨rfl, rfl, rfl⟩ := h
          exact .inr ⟨.inl rfl, rfl, hb⟩
        · exact .inl h
        · exact .inr ⟨.inr a1, a2, a3⟩
      · rintro (h | ⟨rfl | a1, a2, a3⟩)
        · exact .inl (.inr h)
        · rw [hb] at a3
          simp only [Option.some.injEq] at a3
          subst a2 a3
          exact .inl (.inl rfl)
        · exact .inr ⟨a1, a2, a3⟩

theorem Run.walkE (R : Run P call ops B n0 π d0 pr dN) : ∀ (l pre post : List Nat) (d d' : DS), π = pre ++ (l ++ post) → dRun P call ops B n0 pre d0 = some d → dRun P call ops B n0 l d = some d' →
    ∃ es hs, d'.done = es ++ d.done ∧ d'.hist = hs ++ d.hist ∧ hs.length = es.length ∧ ∀ e ∈ es, e ∈ l ∧ WE P call ops B n0 π d0 e
  | [], pre, post, d, d', hπ, h1, h2 => by
    simp only [dRun, Option.some.injEq] at h2
    subst h2
    exact ⟨[], [], rfl, rfl, rfl, fun e he => by cases he⟩
  | j :: l, pre, post, d, d', hπ, h1, h2 => by
    obtain ⟨d1, g1, g2⟩ := dRun_cons h2
    obtain ⟨o, ho, hs⟩ := step_cases g1
    obtain ⟨_, _, q1, _⟩ := R.at_ (l1 := pre) (l2 := l ++ post) (j := j) (by rw [hπ]; rfl)
    rw [h1, Option.some.injEq] at q1
    have h1' : dRun P call ops B n0 (pre ++ [j]) d0 = some d1 := dRun_two h1 (by simp only [dRun, g1])
    obtain ⟨es, hs', i1, i2, i3, i4⟩ := R.walkE l (pre ++ [j]) post d1 d' (by rw [hπ]; simp) h1' g2
    have same : d1.done = d.done → d1.hist = d.hist → ∃ es hs, d'.done = es ++ d.done ∧ d'.hist = hs ++ d.hist ∧ hs.length = es.length ∧ ∀ e ∈ es, e ∈ j :: l ∧ WE P call ops B n0 π d0 e := fun e1 e2 =>
      ⟨es, hs', by rw [i1, e1], by rw [i2, e2], i3, fun e he => ⟨List.mem_cons_of_mem _ (i4 e he).1, (i4 e he).2⟩⟩
    rw [q1] at hs
    cases hs with
    | skip hw' => exact same (by rw [q1]) (by rw [q1])
    | load t a v hw' hL hop hv hb => exact same (by rw [q1]) (by rw [q1])
    | pure x hw' hL hA hE hx => exact same (by rw [q1]) (by rw [q1])
    | alloc bx hw' hL hA hx => exact same (by rw [q1]) (by rw [q1])
    | eff x H n hw' hL hA hE hp hx hl =>
      refine ⟨es ++ [j], hs' ++ [H], by rw [i1, q1]; simp, by rw [i2, q1]; simp, by simp [i3], fun e he => ?_⟩
      rcases List.mem_append.1 he with he | he
      · exact ⟨List.mem_cons_of_mem _ (i4 e he).1, (i4 e he).2⟩
      · have : e = j := by simpa using he
        subst this
        exact ⟨by simp, o, ho, hw', hL, hA, hE⟩

theorem Run.walkL (R : Run P call ops B n0 π d0 pr dN) {j : Nat} {t : TypeId} {a v : AV} : ∀ (l pre post : List Nat) (d d' : DS), π = pre ++ (l ++ post) → dRun P call ops B n0 pre d0 = some d → dRun P call ops B n0 l d = some d' →
    (j, t, a, v) ∈ d.loads → aLoad P t a d.C = some v → (∀ i ∈ l, WE P call ops B n0 π d0 i → bit B i j = false) → aLoad P t a d'.C = some v
  | [], pre, post, d, d', hπ, h1, h2, hm, hv, hw => by
    simp only [dRun, Option.some.injEq] at h2
    subst h2
    exact hv
  | i :: l, pre, post, d, d', hπ, h1, h2, hm, hv, hw => by
    obtain ⟨d1, g1, g2⟩ := dRun_cons h2
    obtain ⟨o, ho, hs⟩ := step_cases g1
    obtain ⟨_, _, q1, _⟩ := R.at_ (l1 := pre) (l2 := l ++ post) (j := i) (by rw [hπ]; rfl)
    rw [h1, Option.some.injEq] at q1
    have h1' : dRun P call ops B n0 (pre ++ [i]) d0 = some d1 := dRun_two h1 (by simp only [dRun, g1])
    refine R.walkL l (pre ++ [i]) post d1 d' (by rw [hπ]; simp) h1' g2 ?_ ?_ fun k hk => hw k (List.mem_cons_of_mem _ hk)
    · cases hs <;> first | exact hm | exact List.mem_cons_of_mem _ hm
    · rw [q1] at hs
      rw [q1] at hm hv
      cases hs with
      | skip hw' => exact hv
      | load t a v hw' hL hop hv' hb => exact hv
      | pure x hw' hL hA hE hx => exact hv
      | alloc bx hw' hL hA hx => exact hv
      | eff x H n hw' hL hA hE hp hx hl =>
        rcases hl _ hm with h | h
        · have := hw i (by simp) ⟨o, ho, hw', hL, hA, hE⟩
          simp only at h
          rw [this] at h
          cases h
        · exact loadIs_eq h

end
end Go.Va
