/- The abstract evaluator: a region that draws its order: any order. -/
import Derived.Test.YtdldbhjhejdhdaaGreatDoorVaDraw2
set_option linter.unusedVariables false
set_option linter.unusedSimpArgs false
namespace Go.Va

section
variable {P : Program} {call : Caller} {ops : Array Oper} {B : List Nat} {n0 : Nat} {π : List Nat} {d0 dN : DS} {pr : List (List Nat)}

/-- The temporaries behind the operations of S. -/
structure Tm (ops : Array Oper) (E0 E : Env) (S : List Nat) (a : Act) (w : World) (c : Ctx) : Prop where
  size : a.tmps.size = E0.N
  tm1 : ∀ (i : Nat) (o : Oper) (t : Nat), i ∈ S → ops[i]? = some o → o.dst = some t → Rep w c (E.get t) (a.tmps.getD t undef)
  tm2 : ∀ (t : Nat), (∀ (i : Nat) (o : Oper), i ∈ S → ops[i]? = some o → o.dst ≠ some t) → Rep w c (E0.get t) (a.tmps.getD t undef)

theorem Run.not_mem (R : Run P call ops B n0 π d0 pr dN) {l1 l2 : List Nat} {i : Nat} (h : π = l1 ++ l2) (hi : i ∈ l1) : i ∉ l2 := fun h2 => by
  obtain ⟨a, b, rfl⟩ := List.append_of_mem hi
  obtain ⟨_, _, _, _, _, _, _, q, _⟩ := R.at_ (l1 := a) (l2 := b ++ l2) (j := i) (by rw [h]; simp)
  exact q (List.mem_append_right _ h2)

theorem Tm.looks (R : Run P call ops B n0 π d0 pr dN) {S : List Nat} {a : Act} {w : World} {c : Ctx} (hc : Closed B S) (T : Tm ops d0.tmps dN.tmps S a w c) {j : Nat} {o : Oper} (hj : j ∉ S) (hp : ∀ e ∈ pr.getD j [], e ∈ S) (ho : ops[j]? = some o) {t : Nat} (ht : t ∈ o.looksAt ops) :
    Rep w c ((Dat P call ops B n0 π d0 j).tmps.get t) (a.tmps.getD t undef) := by
  have hlt : j < ops.size := (Array.getElem?_eq_some_iff.1 ho).1
  obtain ⟨l1, l2, hπ⟩ := R.find hlt
  obtain ⟨d', o', q1, q2, q3, q4, q5, q6, q7, q8⟩ := R.at_ hπ
  have hrest : dRun P call ops B n0 (j :: l2) (Dat P call ops B n0 π d0 j) = some dN := by
    obtain ⟨d1, h1, h2⟩ := dRun_append l1 (j :: l2) d0 dN (by rw [← hπ]; exact R.run)
    rw [q1] at h1
    cases h1
    exact h2
  by_cases hw : ∃ (i : Nat) (oi : Oper), ops[i]? = some oi ∧ oi.dst = some t
  · obtain ⟨i, oi, hi, hd⟩ := hw
    rcases R.w2 i j oi o t hi ho hd ht with h | h
    · have hiS := hc.bits R.bits hlt hp i h
      have e : dN.tmps.get t = (Dat P call ops B n0 π d0 j).tmps.get t := (dRun_tmps _ _ _ hrest).2 t fun k hk ok hok hdk => by
        have := R.w1 k i ok oi t hok hi hdk hd
        subst this
        exact R.not_mem hπ (q8 _ h) hk
      rw [← e]
      exact T.tm1 i oi t hiS hi hd
    · have hiS : i ∉ S := fun hs => hj (hc i hs j h)
      have e : (Dat P call ops B n0 π d0 j).tmps.get t = d0.tmps.get t := (dRun_tmps _ _ _ q1).2 t fun k hk ok hok hdk => by
        have := R.w1 k i ok oi t hok hi hdk hd
        subst this
        obtain ⟨x, y, rfl⟩ := List.append_of_mem hk
        obtain ⟨_, _, _, _, _, _, _, _, _, z⟩ := R.at_ (l1 := x) (l2 := y ++ j :: l2) (j := k) (by rw [hπ]; simp)
        exact q5 (List.mem_append_left _ (z j h))
      rw [e]
      exact T.tm2 t fun k ok hk hok hdk => by
        have := R.w1 k i ok oi t hok hi hdk hd
        subst this
        exact hiS hk
  · have hw' : ∀ (k : Nat) (ok : Oper), ops[k]? = some ok → ok.dst ≠ some t := fun k ok hk hd => hw ⟨k, ok, hk, hd⟩
    rw [(dRun_tmps _ _ _ q1).2 t fun k _ ok hok => hw' k ok hok]
    exact T.tm2 t fun k ok _ hok => hw' k ok hok

theorem Tm.evals (R : Run P call ops B n0 π d0 pr dN) {S : List Nat} {a : Act} {w : World} {c : Ctx} (hc : Closed B S) (T : Tm ops d0.tmps dN.tmps S a w c) {j : Nat} {o : Oper} (hj : j ∉ S) (hp : ∀ e ∈ pr.getD j [], e ∈ S) (ho : ops[j]? = some o) :
    ∀ y ∈ o.op.operands, Rep w c (aev (Dat P call ops B n0 π d0 j).tmps y) (a.eval y) := fun y hy => by
  cases y with
  | tmp t => exact T.looks R hc hj hp ho (List.mem_append_left _ (List.mem_filterMap.2 ⟨.tmp t, by simpa using hy, rfl⟩))
  | const v => exact Rep.norm rfl
  | global g => rfl
  | func f => exact ⟨#[], #[], rfl, by simp [RepL], by simp [RepL]⟩

theorem Tm.wanted (R : Run P call ops B n0 π d0 pr dN) {S : List Nat} {a : Act} {w : World} {c : Ctx} (hc : Closed B S) (T : Tm ops d0.tmps dN.tmps S a w c) {j : Nat} {o : Oper} (hj : j ∉ S) (hp : ∀ e ∈ pr.getD j [], e ∈ S) (ho : ops[j]? = some o)
    {b : Bool} (h : aWanted ops o (Dat P call ops B n0 π d0 j).tmps = some b) : Region.wanted o (yielded ops a.tmps) = b :=
  wanted_at h fun g want d hg hd => T.looks R hc hj hp ho (by
    unfold Oper.looksAt
    rw [hg]
    exact List.mem_append_right _ (show d ∈ ((ops[g]?).bind (·.dst)).toList by rw [hd]; simp))

theorem Tm.step (R : Run P call ops B n0 π d0 pr dN) {S : List Nat} {a : Act} {w w' : World} {c c' : Ctx} (T : Tm ops d0.tmps dN.tmps S a w c) (hE : Ext w c w' c') {j : Nat} {o : Oper} (hj : j ∉ S) (ho : ops[j]? = some o) {l1 l2 : List Nat} (hπ : π = l1 ++ j :: l2) {d' : DS} {x : AV} {u : Value}
    (h1 : d'.tmps = aPut (Dat P call ops B n0 π d0 j).tmps o.dst x) (h2 : dRun P call ops B n0 l2 d' = some dN) (hx : Rep w' c' x u) : Tm ops d0.tmps dN.tmps (j :: S) (a.put o.dst u) w' c' := by
  obtain ⟨_, _, q1, q2, q3, q4, q5, q6, q7, q8⟩ := R.at_ hπ
  have hN : (Dat P call ops B n0 π d0 j).tmps.N = d0.tmps.N := (dRun_tmps _ _ _ q1).1
  have hsz : (a.put o.dst u).tmps.size = a.tmps.size := by cases o.dst <;> simp [Act.put]
  refine ⟨hsz.trans T.size, fun i oi t hi hoi hd => ?_, fun t ht => ?_⟩
  · by_cases e : i = j
    · subst e
      rw [ho] at hoi
      cases hoi
      have e : dN.tmps.get t = d'.tmps.get t := (dRun_tmps _ _ _ h2).2 t fun k hk ok hok hdk => by
        have := R.w1 k i ok o t hok ho hdk hd
        subst this
        exact q6 hk
      rw [e, h1, hd]
      exact put_rep (by rw [T.size, hN]) hx
    · have hi' : i ∈ S := (List.mem_cons.1 hi).resolve_left e
      rw [put_other fun hdo => e (R.w1 i j oi o t hoi ho hd hdo)]
      exact Rep.mono hE _ _ (T.tm1 i oi t hi' hoi hd)
  · rw [put_other (ht j o (by simp) ho)]
    exact Rep.mono hE _ _ (T.tm2 t fun i oi hi => ht i oi (List.mem_cons_of_mem _ hi))

/-! ### Where a run of any order stands -/

theorem xat_none {S rest : List Nat} {j : Nat} (h : blkOf P call ops B n0 π d0 j = none) (r : Nat) : xat P call ops B n0 π d0 (j :: S) rest r = xat P call ops B n0 π d0 S rest r := by
  unfold xat
  by_cases e : r - n0 = j
  · rw [e, h]; simp
  · simp [e]

theorem xat_ne {S rest : List Nat} {j r : Nat} (h : r ≠ n0 + j) : xat P call ops B n0 π d0 (j :: S) rest r = xat P call ops B n0 π d0 S rest r := by
  unfold xat
  by_cases hn : n0 ≤ r
  · have e : r - n0 ≠ j := fun e => h (by omega)
    simp [e]
  · simp [hn]

structure Inv (P : Program) (call : Caller) (ops : Array Oper) (B : List Nat) (n0 : Nat) (π : List Nat) (d0 dN : DS) (w0 : World) (c0 : Ctx) (H0 : Heap) (a0 : Act)
    (S pre rest : List Nat) (d : DS) (J : Heap) (a : Act) (w : World) (c : Ctx) : Prop where
  closed : Closed B S
  split : π = pre ++ rest
  run1 : dRun P call ops B n0 pre d0 = some d
  run2 : dRun P call ops B n0 rest d = some dN
  pend : d.pend = []
  hist : ∃ tl, d.hist = d.C :: tl
  effIn : ∀ j ∈ pre, WE P call ops B n0 π d0 j → j ∈ S
  effOut : ∀ j ∈ rest, WE P call ops B n0 π d0 j → j ∉ S
  alIn : ∀ j ∈ pre, blkOf P call ops B n0 π d0 j ≠ none → j ∈ S
  heap : ∀ r, hget J r = (xat P call ops B n0 π d0 S rest r).or (hget d.C r)
  apart : ∀ k ∈ rest, k ∈ S → blkOf P call ops B n0 π d0 k ≠ none → hget d.C (n0 + k) = none
  free : ∀ k, k < ops.size → k ∉ S → ¬ c.dom (n0 + k)
  mv : Mv w0 c0 H0 n0 w c J d.n
  lo : n0 + ops.size ≤ d.n
  defers : a.defers = a0.defers
  tm : Tm ops d0.tmps dN.tmps S a w c

variable {w0 : World} {c0 : Ctx} {H0 : Heap} {a0 : Act}

theorem xat_some {S rest : List Nat} {r : Nat} {b : Blk} (h : xat P call ops B n0 π d0 S rest r = some b) : n0 ≤ r ∧ r - n0 ∈ rest ∧ r - n0 ∈ S ∧ blkOf P call ops B n0 π d0 (r - n0) = some b := by
  unfold xat at h
  split at h
  · rename_i hc; exact ⟨hc.1, hc.2.1, hc.2.2, h⟩
  · cases h

theorem Inv.part {S pre rest : List Nat} {d : DS} {J : Heap} {a : Act} {w : World} {c : Ctx} (I : Inv P call ops B n0 π d0 dN w0 c0 H0 a0 S pre rest d J a w c) : HRel w c d.C := by
  refine I.mv.rel.part (xat P call ops B n0 π d0 S rest) (fun r b hb => ⟨by rw [I.heap, hb]; rfl, ?_⟩) (fun r hr => by rw [I.heap, hr]; rfl)
  obtain ⟨h1, h2, h3, h4⟩ := xat_some hb
  have := I.apart _ h2 h3 (by rw [h4]; simp)
  rwa [show n0 + (r - n0) = r by omega] at this

/-- An operation that leaves the world as it is. -/
theorem Inv.quiet (R : Run P call ops B n0 π d0 pr dN) {S pre rest : List Nat} {d : DS} {J : Heap} {a : Act} {w : World} {c : Ctx} (I : Inv P call ops B n0 π d0 dN w0 c0 H0 a0 S pre rest d J a w c) {j : Nat} {o : Oper} (hj : j ∉ S) (hp : ∀ e ∈ pr.getD j [], e ∈ S) (ho : ops[j]? = some o)
    {l1 l2 : List Nat} (hπ : π = l1 ++ j :: l2) {d' : DS} {x : AV} {u : Value} (h1 : d'.tmps = aPut (Dat P call ops B n0 π d0 j).tmps o.dst x) (h2 : dRun P call ops B n0 l2 d' = some dN) (hx : Rep w c x u)
    (hb : blkOf P call ops B n0 π d0 j = none) (hw : ¬ WE P call ops B n0 π d0 j) : Inv P call ops B n0 π d0 dN w0 c0 H0 a0 (j :: S) pre rest d J (a.put o.dst u) w c where
  closed := I.closed.step R.bits (Array.getElem?_eq_some_iff.1 ho).1 hp
  split := I.split
  run1 := I.run1
  run2 := I.run2
  pend := I.pend
  hist := I.hist
  effIn i hi he := List.mem_cons_of_mem _ (I.effIn i hi he)
  effOut i hi he hm := by
    rcases List.mem_cons.1 hm with rfl | hm
    · exact hw he
    · exact I.effOut i hi he hm
  alIn i hi he := List.mem_cons_of_mem _ (I.alIn i hi he)
  heap r := by rw [xat_none hb]; exact I.heap r
  apart k hk hks hkb := by
    rcases List.mem_cons.1 hks with rfl | hks
    · exact absurd hb hkb
    · exact I.apart k hk hks hkb
  free k hk hks := I.free k hk fun h => hks (List.mem_cons_of_mem _ h)
  mv := I.mv
  lo := I.lo
  defers := (put_defers _ _ _).trans I.defers
  tm := I.tm.step R (Ext.refl _ _) hj ho hπ h1 h2 hx

/-- A load finds, wherever the run stands, what the canonical run found. -/
theorem Inv.loads (R : Run P call ops B n0 π d0 pr dN) {S pre rest : List Nat} {d : DS} {J : Heap} {a : Act} {w : World} {c : Ctx} (I : Inv P call ops B n0 π d0 dN w0 c0 H0 a0 S pre rest d J a w c) {j : Nat} {o : Oper} (hj : j ∉ S) (hp : ∀ e ∈ pr.getD j [], e ∈ S) (ho : ops[j]? = some o)
    {t : TypeId} {x : Operand} (hop : o.op = .load t x) (hw : aWanted ops o (Dat P call ops B n0 π d0 j).tmps = some true) : ∃ v, aLoad P t (aev (Dat P call ops B n0 π d0 j).tmps x) d.C = some v ∧
      ∀ (l1 l2 : List Nat) (d' : DS), π = l1 ++ j :: l2 → Step P call ops B n0 j o (Dat P call ops B n0 π d0 j) d' → d'.tmps = aPut (Dat P call ops B n0 π d0 j).tmps o.dst v := by
  have hlt : j < ops.size := (Array.getElem?_eq_some_iff.1 ho).1
  have hL : isL o.op = true := by rw [hop]; rfl
  have hbits : ∀ e ∈ S, bit B e j = false := fun e he => by
    cases hb : bit B e j with
    | false => rfl
    | true => exact absurd (I.closed e he j hb) hj
  have hready : ∀ e, e ∉ S → bit B j e = false := fun e he => by
    cases hb : bit B j e with
    | false => rfl
    | true => exact absurd (I.closed.bits R.bits hlt hp e hb) he
  have key : ∀ d', Step P call ops B n0 j o (Dat P call ops B n0 π d0 j) d' → ∃ v, aLoad P t (aev (Dat P call ops B n0 π d0 j).tmps x) (Dat P call ops B n0 π d0 j).C = some v ∧
      loadBack P B j t (aev (Dat P call ops B n0 π d0 j).tmps x) v (Dat P call ops B n0 π d0 j).done (Dat P call ops B n0 π d0 j).hist = true ∧ d'.C = (Dat P call ops B n0 π d0 j).C ∧ (j, t, aev (Dat P call ops B n0 π d0 j).tmps x, v) ∈ d'.loads ∧
      d'.tmps = aPut (Dat P call ops B n0 π d0 j).tmps o.dst v := fun d' hs => by
    cases hs with
    | skip hw' => rw [hw] at hw'; cases hw'
    | load t' a' v hw' hL' hop' hv hb =>
      rw [hop] at hop'
      cases hop'
      exact ⟨v, hv, hb, rfl, by simp, rfl⟩
    | alloc bx hw' hL' hA hx => rw [hL] at hL'; cases hL'
    | eff x H n hw' hL' hA hE hp hx hl => rw [hL] at hL'; cases hL'
    | pure x hw' hL' hA hE hx => rw [hL] at hL'; cases hL'
  have hmem : j ∈ pre ++ rest := by rw [← I.split]; exact (Lin.all π [] R.lin j hlt).resolve_left (by simp)
  have uniq : ∀ d1 d2 v1, Step P call ops B n0 j o (Dat P call ops B n0 π d0 j) d1 → aLoad P t (aev (Dat P call ops B n0 π d0 j).tmps x) (Dat P call ops B n0 π d0 j).C = some v1 → Step P call ops B n0 j o (Dat P call ops B n0 π d0 j) d2 → d1.tmps = aPut (Dat P call ops B n0 π d0 j).tmps o.dst v1 → d2.tmps = aPut (Dat P call ops B n0 π d0 j).tmps o.dst v1 := fun d1 d2 v1 s1 e1 s2 t1 => by
    obtain ⟨v, g1, _, _, _, g5⟩ := key d2 s2
    rw [e1] at g1
    cases g1
    exact g5
  rcases List.mem_append.1 hmem with hm | hm
  · obtain ⟨l1, l2, rfl⟩ := List.append_of_mem hm
    have hπ : π = l1 ++ j :: (l2 ++ rest) := by rw [I.split]; simp
    obtain ⟨d', o', q1, q2, q3, q4, q5, q6, q7, q8⟩ := R.at_ hπ
    rw [ho] at q2
    cases q2
    obtain ⟨v, k1, k2, k3, k4, k5⟩ := key d' q3
    refine ⟨v, ?_, fun _ _ d2 _ s2 => uniq d' d2 v q3 k1 s2 k5⟩
    obtain ⟨d1, g1, g2⟩ := dRun_append l2 rest d' dN q4
    obtain ⟨d3, g3, g4⟩ := dRun_append l1 (j :: l2) d0 d I.run1
    rw [q1] at g3
    cases g3
    obtain ⟨d4, g5, g6⟩ := dRun_cons g4
    have e1 : dRun P call ops B n0 (l1 ++ [j]) d0 = some d4 := dRun_two q1 (by simp only [dRun, g5])
    obtain ⟨o4, ho4, s4⟩ := step_cases g5
    rw [ho] at ho4
    cases ho4
    obtain ⟨v4, m1, m2, m3, m4, m5⟩ := key d4 s4
    rw [k1] at m1
    cases m1
    exact R.walkL l2 (l1 ++ [j]) rest d4 d (by rw [hπ]; simp) e1 g6 m4 (by rw [m3]; exact k1) fun i hi hwe => hbits i (I.effIn i (by simp [hi]) hwe)
  · obtain ⟨r1, r2, hr⟩ := List.append_of_mem hm
    have hπ : π = (pre ++ r1) ++ j :: r2 := by rw [I.split, hr]; simp
    obtain ⟨d', o', q1, q2, q3, q4, q5, q6, q7, q8⟩ := R.at_ hπ
    rw [ho] at q2
    cases q2
    obtain ⟨v, k1, k2, k3, k4, k5⟩ := key d' q3
    refine ⟨v, ?_, fun _ _ d2 _ s2 => uniq d' d2 v q3 k1 s2 k5⟩
    obtain ⟨d1, g1, g2⟩ := dRun_append pre r1 d0 _ q1
    rw [I.run1] at g1
    cases g1
    obtain ⟨es, hs, e1, e2, e3, e4⟩ := R.walkE r1 pre (j :: r2) d _ (by rw [hπ]; simp) I.run1 g2
    obtain ⟨tl, htl⟩ := I.hist
    rw [e1, e2, htl] at k2
    exact loadIs_eq (loadBack_app es hs e3 (fun e he => hready e (I.effOut e (by rw [hr]; simp [(e4 e he).1]) (e4 e he).2)) k2)

end
end Go.Va
