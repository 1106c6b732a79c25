/- The abstract evaluator: a region that draws its order: joined. -/
import Derived.Test.YtdldbhjhejdhdaaGreatDoorVaDraw3
set_option linter.unusedVariables false
set_option linter.unusedSimpArgs false
namespace Go.Va

section
variable {P : Program} {call : Caller} {ops : Array Oper} {B : List Nat} {n0 : Nat} {π : List Nat} {d0 dN : DS} {pr : List (List Nat)}
variable {w0 : World} {c0 : Ctx} {H0 : Heap} {a0 : Act}

/-- The blocks that wait ahead of an effect, or at the end. -/
theorem Inv.pending (R : Run P call ops B n0 π d0 pr dN) {S pre rest : List Nat} {d : DS} {J : Heap} {a : Act} {w : World} {c : Ctx} (I : Inv P call ops B n0 π d0 dN w0 c0 H0 a0 S pre rest d J a w c) {r1 r2 : List Nat} (hr : rest = r1 ++ r2)
    {d' : DS} (h : dRun P call ops B n0 r1 d = some d') (hn : ∀ i ∈ r1, ¬ WE P call ops B n0 π d0 i) :
    d'.C = d.C ∧ d'.n = d.n ∧ (∀ k, k ∈ d'.pend.map (·.1) ↔ k ∈ r1 ∧ blkOf P call ops B n0 π d0 k ≠ none) ∧
      ∀ r, hget (commit d'.C d'.pend) r = (if n0 ≤ r ∧ r - n0 ∈ r1 then blkOf P call ops B n0 π d0 (r - n0) else none).or (hget d.C r) := by
  obtain ⟨e1, e2, e3⟩ := R.walk r1 pre r2 d d' (by rw [I.split, hr]) I.run1 h hn
  have hp : ∀ k id b, (k, id, b) ∈ d'.pend ↔ k ∈ r1 ∧ id = n0 + k ∧ blkOf P call ops B n0 π d0 k = some b := fun k id b => by rw [e3, I.pend]; simp
  have hm : ∀ k, k ∈ d'.pend.map (·.1) ↔ k ∈ r1 ∧ blkOf P call ops B n0 π d0 k ≠ none := fun k => by
    constructor
    · intro h
      obtain ⟨⟨k', id, b⟩, h1, h2⟩ := List.mem_map.1 h
      simp only at h2
      subst h2
      obtain ⟨g1, g2, g3⟩ := (hp _ _ _).1 h1
      exact ⟨g1, by rw [g3]; simp⟩
    · rintro ⟨h1, h2⟩
      cases hb : blkOf P call ops B n0 π d0 k with
      | none => exact absurd hb h2
      | some b => exact List.mem_map.2 ⟨(k, n0 + k, b), (hp _ _ _).2 ⟨h1, rfl, hb⟩, rfl⟩
  refine ⟨e1, e2, hm, fun r => ?_⟩
  rw [hget_commit (n0 := n0) d'.C (blkOf P call ops B n0 π d0) d'.pend (fun k id b h => ⟨((hp _ _ _).1 h).2.1, ((hp _ _ _).1 h).2.2⟩) r, e1]
  by_cases hc : n0 ≤ r ∧ r - n0 ∈ r1
  · rw [if_pos hc]
    by_cases hb : blkOf P call ops B n0 π d0 (r - n0) = none
    · rw [hb]; simp
    · rw [if_pos ⟨hc.1, (hm _).2 ⟨hc.2, hb⟩⟩]
  · rw [if_neg hc, if_neg fun h => hc ⟨h.1, ((hm _).1 h.2).1⟩]

theorem heap_with (S r2 : List Nat) (C : Heap) : ∃ J, ∀ r, hget J r = (xat P call ops B n0 π d0 S r2 r).or (hget C r) := by
  induction r2 with
  | nil => exact ⟨C, fun r => by unfold xat; simp⟩
  | cons k l ih =>
    obtain ⟨J, hJ⟩ := ih
    by_cases hk : k ∈ S
    · cases hb : blkOf P call ops B n0 π d0 k with
      | none =>
        refine ⟨J, fun r => ?_⟩
        rw [hJ]
        unfold xat
        by_cases e : r - n0 = k
        · rw [e, hb]; simp
        · simp [e]
      | some b =>
        refine ⟨hput J (n0 + k) b, fun r => ?_⟩
        rw [hget_hput, hJ]
        by_cases e : r = n0 + k
        · subst e
          rw [if_pos rfl]
          unfold xat
          rw [if_pos ⟨by omega, by simp, by rw [Nat.add_sub_cancel_left]; exact hk⟩, Nat.add_sub_cancel_left, hb]
          rfl
        · rw [if_neg e]
          unfold xat
          by_cases hn : n0 ≤ r
          · have e' : r - n0 ≠ k := fun e' => e (by omega)
            simp [e']
          · simp [hn]
    · refine ⟨J, fun r => ?_⟩
      rw [hJ]
      unfold xat
      by_cases e : r - n0 = k
      · rw [e]; simp [hk]
      · simp [e]

theorem Run.at_step (R : Run P call ops B n0 π d0 pr dN) {l1 l2 : List Nat} {j : Nat} (h : π = l1 ++ j :: l2) : ∃ d', dStep P call ops B n0 j (Dat P call ops B n0 π d0 j) = some d' ∧ dRun P call ops B n0 l2 d' = some dN := by
  obtain ⟨_, _, q1, _⟩ := R.at_ h
  obtain ⟨d5, g5, g6⟩ := dRun_append l1 (j :: l2) d0 dN (by rw [← h]; exact R.run)
  rw [q1] at g5
  cases g5
  exact dRun_cons g6

theorem draw_main (hcall : CallerOk P call) (R : Run P call ops B n0 π d0 pr dN) {Q : Exit → Act → World → Prop} (hw0 : HRel w0 c0 H0)
    (hQ : ∀ a' w' c', a'.defers = a0.defers → ERel w' c' dN.tmps a' → Mv w0 c0 H0 n0 w' c' (commit dN.C dN.pend) dN.n → Q .normal a' w') :
    ∀ (l S pre rest : List Nat) (d : DS) (J : Heap) (a : Act) (w : World) (c : Ctx), Lin ops.size pr S l → Inv P call ops B n0 π d0 dN w0 c0 H0 a0 S pre rest d J a w c → wpOps P ops Q l a w
  | [], S, pre, rest, d, J, a, w, c, hl, I => by
    have hlt : ∀ i ∈ rest, i < ops.size := fun i hi => by
      obtain ⟨x, y, rfl⟩ := List.append_of_mem hi
      obtain ⟨_, _, _, _, _, _, _, _, z, _⟩ := R.at_ (l1 := pre ++ x) (l2 := y) (j := i) (by rw [I.split]; simp)
      exact z
    obtain ⟨e1, e2, e3, e4⟩ := I.pending R (r1 := rest) (r2 := []) (by simp) I.run2 fun i hi hwe => I.effOut i hi hwe (hl i (hlt i hi))
    show Q .normal a w
    refine hQ a w c I.defers (erel_of (by rw [I.tm.size, (dRun_tmps _ _ _ R.run).1]) fun t => ?_) ?_
    · by_cases hw : ∃ (i : Nat) (oi : Oper), ops[i]? = some oi ∧ oi.dst = some t
      · obtain ⟨i, oi, hi, hd⟩ := hw
        exact I.tm.tm1 i oi t (hl i (Array.getElem?_eq_some_iff.1 hi).1) hi hd
      · have hw' : ∀ (k : Nat) (ok : Oper), ops[k]? = some ok → ok.dst ≠ some t := fun k ok hk hd => hw ⟨k, ok, hk, hd⟩
        rw [(dRun_tmps _ _ _ R.run).2 t fun k _ ok hok => hw' k ok hok]
        exact I.tm.tm2 t fun k ok _ hok => hw' k ok hok
    · rw [e2]
      refine I.mv.congr fun r => ?_
      rw [e4, I.heap]
      congr 1
      unfold xat
      by_cases hc : n0 ≤ r ∧ r - n0 ∈ rest
      · rw [if_pos hc, if_pos ⟨hc.1, hc.2, hl _ (hlt _ hc.2)⟩]
      · rw [if_neg hc, if_neg fun h => hc ⟨h.1, h.2.1⟩]
  | j :: l, S, pre, rest, d, J, a, w, c, hl, I => by
    obtain ⟨hlt, hj, hp, hl'⟩ := hl
    obtain ⟨l1, l2, hπ⟩ := R.find hlt
    obtain ⟨_, o, q1, ho, _, _, q5, q6, q7, q8⟩ := R.at_ hπ
    obtain ⟨d', hds, q4⟩ := R.at_step hπ
    obtain ⟨o2, ho2, hs⟩ := step_cases hds
    rw [ho] at ho2
    cases ho2
    have hev := I.tm.evals R I.closed hj hp ho
    have hmem : j ∈ pre ++ rest := by rw [← I.split, hπ]; simp
    simp only [wpOps, ho]
    cases hs with
    | skip hw =>
      rw [if_neg (by rw [I.tm.wanted R I.closed hj hp ho hw]; simp)]
      exact draw_main hcall R hw0 hQ l (j :: S) pre rest d J _ w c hl' (I.quiet R hj hp ho hπ rfl q4 Rep.undef (blk_none ho (.inl (by rw [hw]; simp))) (not_we ho (.inl (by rw [hw]; simp))))
    | load t x v hw hL hop hv hb =>
      rw [if_pos (I.tm.wanted R I.closed hj hp ho hw)]
      obtain ⟨v', g1, g2⟩ := I.loads R hj hp ho hop hw
      obtain ⟨u, k1, k2⟩ := load_goes (P := P) (n := d.n) hop g1 (hev x (by rw [hop]; simp [Op.operands])) I.part
      refine .inl ((Goes.wp (K := fun u' w' => u' = u ∧ w' = w) (.inl ⟨u, w, k1, rfl, rfl⟩)) fun u' w' ⟨e1, e2⟩ => ?_)
      subst e1 e2
      exact draw_main hcall R hw0 hQ l (j :: S) pre rest d J _ w' c hl' (I.quiet R hj hp ho hπ (g2 l1 l2 _ hπ (.load t x v hw hL hop hv hb)) q4 k2 (blk_none ho (.inr (.inl hL))) (not_we ho (.inr (.inl hL))))
    | pure x hw hL hA hE hx =>
      rw [if_pos (I.tm.wanted R I.closed hj hp ho hw)]
      obtain ⟨u, k1, k2⟩ := aPure_sound (P := P) hx hev
      refine .inl ((Goes.wp (K := fun u' w' => u' = u ∧ w' = w) (.inl ⟨u, w, k1, rfl, rfl⟩)) fun u' w' ⟨e1, e2⟩ => ?_)
      subst e1 e2
      exact draw_main hcall R hw0 hQ l (j :: S) pre rest d J _ w' c hl' (I.quiet R hj hp ho hπ rfl q4 k2 (blk_none ho (.inr (.inr hA))) (not_we ho (.inr (.inr (.inr hE)))))
    | alloc bx hw hL hA hx =>
      rw [if_pos (I.tm.wanted R I.closed hj hp ho hw)]
      have hb := blk_some ho hw hL hA hx
      obtain ⟨cs', u, k1, k2, k3⟩ := alloc_sound (P := P) (w := w) hx hev
      have hnd := I.free j hlt hj
      have hm := Mv.alloc2 (n := n0) I.mv.rel hnd I.mv.lt (by omega) (by have := I.lo; omega) (cs' := cs'.toList.toArray) (blk := bx.1) ⟨cs'.toList, [], by simp, k2⟩
      rw [Array.toArray_toList] at hm
      refine .inl ((Goes.wp (K := fun u' w' => u' = u ∧ w' = w.alloc (.cells cs' bx.1.t)) (.inl ⟨u, _, k1, rfl, rfl⟩)) fun u' w' ⟨e1, e2⟩ => ?_)
      subst e1 e2
      have hru : Rep (w.alloc (.cells cs' bx.1.t)) (c.new (n0 + j) w.heap.size) bx.2 u' := k3 _ _ (.inl rfl) (by simp [Ctx.new]) (by unfold World.shape?; rw [heap_alloc_new])
      have hjr : j ∈ rest := (List.mem_append.1 hmem).resolve_left fun h => hj (I.alIn j h (by rw [hb]; simp))
      refine draw_main hcall R hw0 hQ l (j :: S) pre rest d (hput J (n0 + j) bx.1) _ _ (c.new (n0 + j) w.heap.size) hl' ?_
      exact {
        closed := I.closed.step R.bits hlt hp
        split := I.split
        run1 := I.run1
        run2 := I.run2
        pend := I.pend
        hist := I.hist
        effIn := fun i hi he => List.mem_cons_of_mem _ (I.effIn i hi he)
        effOut := fun i hi he hm => by
          rcases List.mem_cons.1 hm with rfl | hm
          · exact not_we ho (.inr (.inr (.inl hA))) he
          · exact I.effOut i hi he hm
        alIn := fun i hi he => List.mem_cons_of_mem _ (I.alIn i hi he)
        heap := fun r => by
          rw [hget_hput]
          by_cases e : r = n0 + j
          · subst e
            rw [if_pos rfl]
            unfold xat
            rw [if_pos ⟨by omega, by rw [Nat.add_sub_cancel_left]; exact hjr, by rw [Nat.add_sub_cancel_left]; simp⟩, Nat.add_sub_cancel_left, hb]
            rfl
          · rw [if_neg e, xat_ne e]
            exact I.heap r
        apart := fun k hk hks hkb => by
          rcases List.mem_cons.1 hks with rfl | hks
          · cases hg : hget d.C (n0 + k) with
            | none => rfl
            | some b => exact absurd (I.part.live _ _ hg).1 hnd
          · exact I.apart k hk hks hkb
        free := fun k hk hks h => by
          rcases h with h | h
          · exact hks (by rw [show k = j by omega]; simp)
          · exact I.free k hk (fun h' => hks (List.mem_cons_of_mem _ h')) h
        mv := I.mv.trans2 hw0 hm (Nat.le_refl _) (by have := I.lo; omega)
        lo := I.lo
        defers := (put_defers _ _ _).trans I.defers
        tm := I.tm.step R hm.ext hj ho hπ rfl q4 hru }
    | eff x H n hw hL hA hE hpd hx hld =>
      rw [if_pos (I.tm.wanted R I.closed hj hp ho hw)]
      have hwe : WE P call ops B n0 π d0 j := ⟨o, ho, hw, hL, hA, hE⟩
      have hjr : j ∈ rest := (List.mem_append.1 hmem).resolve_left fun h => hj (I.effIn j h hwe)
      obtain ⟨r1, r2, hr⟩ := List.append_of_mem hjr
      have hπ2 : π = (pre ++ r1) ++ j :: r2 := by rw [I.split, hr]; simp
      obtain ⟨_, _, p1, _, _, _, p5, p6, p7, p8⟩ := R.at_ hπ2
      obtain ⟨d'', hds2, p4⟩ := R.at_step hπ2
      rw [hds] at hds2
      cases hds2
      obtain ⟨dm, g1, g2⟩ := dRun_append pre r1 d0 _ p1
      rw [I.run1] at g1
      cases g1
      have hbits : ∀ i, bit B j i = true → i ∈ S := fun i hi => I.closed.bits R.bits hlt hp i hi
      have hr1 : ∀ i ∈ r1, ¬ WE P call ops B n0 π d0 i := fun i hi hwi => by
        have hi' : i ∈ rest := by rw [hr]; simp [hi]
        have hne : i ≠ j := fun e => p5 (by rw [← e]; simp [hi])
        obtain ⟨oi, hoi, _, _, _, hEi⟩ := id hwi
        rcases R.w3 i j oi o hoi ho hne hEi hE with h | h
        · exact I.effOut i hi' hwi (hbits i h)
        · obtain ⟨y1, y2, rfl⟩ := List.append_of_mem hi
          obtain ⟨_, _, _, _, _, _, _, _, _, z⟩ := R.at_ (l1 := pre ++ y1) (l2 := y2 ++ j :: r2) (j := i) (by rw [hπ2]; simp)
          have := z j h
          exact p5 (by simp only [List.mem_append, List.mem_cons] at this ⊢; rcases this with h | h; exact .inl h; exact .inr (.inl h))
      obtain ⟨e1, e2, e3, e4⟩ := I.pending R (r1 := r1) (r2 := j :: r2) hr g2 hr1
      have hal : ∀ k ∈ r1, blkOf P call ops B n0 π d0 k ≠ none → k ∈ S := fun k hk hkb => by
        obtain ⟨q, hq1, hq2⟩ := List.mem_map.1 ((e3 k).2 ⟨hk, hkb⟩)
        have := hpd q hq1
        rw [hq2] at this
        exact hbits k this
      have hbj : blkOf P call ops B n0 π d0 j = none := blk_none ho (.inr (.inr hA))
      have hX1 : ∀ r b, xat P call ops B n0 π d0 S r2 r = some b → hget J r = some b ∧ hget (commit (Dat P call ops B n0 π d0 j).C (Dat P call ops B n0 π d0 j).pend) r = none := fun r b hb => by
        obtain ⟨h1, h2, h3, h4⟩ := xat_some hb
        have hk : r - n0 ∈ rest := by rw [hr]; simp [h2]
        have hnr : r - n0 ∉ r1 := fun h => R.not_mem (l1 := pre ++ r1) (l2 := j :: r2) hπ2 (List.mem_append_right _ h) (List.mem_cons_of_mem _ h2)
        have hc := I.apart _ hk h3 (by rw [h4]; simp)
        rw [show n0 + (r - n0) = r by omega] at hc
        refine ⟨?_, ?_⟩
        · rw [I.heap]
          unfold xat
          rw [if_pos ⟨h1, hk, h3⟩, h4]
          rfl
        · rw [e4, if_neg fun h => hnr h.2, hc]
          rfl
      have hX2 : ∀ r, xat P call ops B n0 π d0 S r2 r = none → hget J r = hget (commit (Dat P call ops B n0 π d0 j).C (Dat P call ops B n0 π d0 j).pend) r := fun r hX => by
        rw [I.heap, e4]
        congr 1
        unfold xat at hX ⊢
        by_cases hn : n0 ≤ r
        · by_cases h1 : r - n0 ∈ r1
          · rw [if_pos (⟨hn, h1⟩ : n0 ≤ r ∧ r - n0 ∈ r1)]
            by_cases hb : blkOf P call ops B n0 π d0 (r - n0) = none
            · rw [hb]; simp
            · rw [if_pos ⟨hn, by rw [hr]; simp [h1], hal _ h1 hb⟩]
          · rw [if_neg (fun h => h1 h.2 : ¬ (n0 ≤ r ∧ r - n0 ∈ r1))]
            by_cases hc : n0 ≤ r ∧ r - n0 ∈ rest ∧ r - n0 ∈ S
            · rw [if_pos hc]
              have h2 := hc.2.1
              rw [hr] at h2
              rcases List.mem_append.1 h2 with h2 | h2
              · exact absurd h2 h1
              · rcases List.mem_cons.1 h2 with h2 | h2
                · rw [h2]; exact hbj
                · rw [if_pos ⟨hn, h2, hc.2.2⟩] at hX; exact hX
            · rw [if_neg hc]
        · simp [hn]
      have hC := I.mv.rel.part _ hX1 hX2
      rw [e2] at hx
      refine .inl ((eff_sound hcall hx hev hC I.mv.lt).wp fun u w1 ⟨c1, hru, m⟩ => ?_)
      obtain ⟨J', hJ'⟩ := heap_with (P := P) (call := call) (ops := ops) (B := B) (n0 := n0) (π := π) (d0 := d0) (j :: S) r2 H
      have mJ : Mv w c J d.n w1 c1 J' n := Mv.frame I.mv.rel _ hX1 hX2 m fun r => by rw [hJ', xat_none hbj]
      refine draw_main hcall R hw0 hQ l (j :: S) ((pre ++ r1) ++ [j]) r2 { tmps := aPut (Dat P call ops B n0 π d0 j).tmps o.dst x, C := H, n := n, pend := [], done := j :: (Dat P call ops B n0 π d0 j).done, hist := H :: (Dat P call ops B n0 π d0 j).hist, loads := (Dat P call ops B n0 π d0 j).loads } J' _ w1 c1 hl' ?_
      exact {
        closed := I.closed.step R.bits hlt hp
        split := by rw [hπ2]; simp
        run1 := dRun_two p1 (by simp only [dRun, hds])
        run2 := p4
        pend := rfl
        hist := ⟨_, rfl⟩
        effIn := fun i hi he => by
          simp only [List.mem_append, List.mem_singleton] at hi
          rcases hi with (hi | hi) | rfl
          · exact List.mem_cons_of_mem _ (I.effIn i hi he)
          · exact absurd he (hr1 i hi)
          · simp
        effOut := fun i hi he hm => by
          rcases List.mem_cons.1 hm with rfl | hm
          · exact p6 hi
          · exact I.effOut i (by rw [hr]; simp [hi]) he hm
        alIn := fun i hi he => by
          simp only [List.mem_append, List.mem_singleton] at hi
          rcases hi with (hi | hi) | rfl
          · exact List.mem_cons_of_mem _ (I.alIn i hi he)
          · exact List.mem_cons_of_mem _ (hal i hi he)
          · simp
        heap := hJ'
        apart := fun k hk hks hkb => by
          have hkj : k ≠ j := fun e => p6 (e ▸ hk)
          have hkS := (List.mem_cons.1 hks).resolve_left hkj
          cases hb : blkOf P call ops B n0 π d0 k with
          | none => exact absurd hb hkb
          | some b =>
            have hxk : xat P call ops B n0 π d0 S r2 (n0 + k) = some b := by
              unfold xat
              rw [Nat.add_sub_cancel_left, if_pos ⟨by omega, hk, hkS⟩, hb]
            obtain ⟨y1, y2⟩ := hX1 _ _ hxk
            cases hg : hget H (n0 + k) with
            | none => rfl
            | some b' =>
              obtain ⟨z1, z2, _⟩ := I.mv.rel.live _ _ y1
              have hρ := m.ext.rho _ z1
              obtain ⟨s, k', hs1, hs2⟩ := m.img _ _ hg (by rw [hρ]; exact I.mv.rel.own _ z2)
              have hsJ : hget J s = some k' := by
                cases hX : xat P call ops B n0 π d0 S r2 s with
                | none => rw [hX2 s hX]; exact hs1
                | some b2 => rw [(hX1 s b2 hX).2] at hs1; cases hs1
              have := I.mv.rel.inj _ _ _ _ hsJ y1 (by rw [hs2, hρ])
              subst this
              rw [y2] at hs1
              cases hs1
        free := fun k hk hks h => by
          rcases (m.fresh _ h).2 with h1 | h1
          · exact I.free k hk (fun h' => hks (List.mem_cons_of_mem _ h')) h1
          · have := I.lo; omega
        mv := I.mv.trans hw0 mJ
        lo := Nat.le_trans I.lo m.le
        defers := (put_defers _ _ _).trans I.defers
        tm := I.tm.step R m.ext hj ho hπ rfl q4 hru }

theorem drawOk_spec {ops : Array Oper} {pr : List (List Nat)} {B π : List Nat} (h : drawOk ops pr B π = true) : Lin ops.size pr [] π ∧ π.length ≤ ops.size ∧ Bits ops.size pr B ∧
    (∀ (i j : Nat) (oi oj : Oper) (t : Nat), ops[i]? = some oi → ops[j]? = some oj → oi.dst = some t → oj.dst = some t → i = j) ∧
    (∀ (i j : Nat) (oi oj : Oper) (t : Nat), ops[i]? = some oi → ops[j]? = some oj → oi.dst = some t → t ∈ oj.looksAt ops → bit B j i = true ∨ bit B i j = true) ∧
    (∀ (i j : Nat) (oi oj : Oper), ops[i]? = some oi → ops[j]? = some oj → i ≠ j → isE oi.op = true → isE oj.op = true → bit B j i = true ∨ bit B i j = true) := by
  unfold drawOk at h
  simp only [Bool.and_eq_true] at h
  obtain ⟨⟨⟨⟨⟨h1, h2⟩, h3⟩, h4⟩, h5⟩, h6⟩ := h
  have hd : ∀ (i : Nat) (o : Oper), ops[i]? = some o → ops.getD i default = o ∧ i ∈ List.range ops.size := fun i o hi =>
    ⟨by rw [Array.getD_eq_getD_getElem?, hi]; rfl, List.mem_range.2 (Array.getElem?_eq_some_iff.1 hi).1⟩
  refine ⟨linB_spec _ _ h1, Nat.le_of_ble_eq_true h2, bits_of h3, fun i j oi oj t hi hj e1 e2 => ?_, fun i j oi oj t hi hj e1 e2 => ?_, fun i j oi oj hi hj hne e1 e2 => ?_⟩
  · rw [List.all_eq_true] at h4
    have := h4 i (hd i oi hi).2
    rw [(hd i oi hi).1, e1] at this
    simp only at this
    rw [List.all_eq_true] at this
    have := this j (hd j oj hj).2
    rw [(hd j oj hj).1, e2] at this
    simp only [Bool.or_eq_true, beq_iff, Nat.beq_refl, Bool.not_true, Bool.false_eq_true, or_false] at this
    exact this
  · rw [List.all_eq_true] at h5
    have := h5 j (hd j oj hj).2
    rw [(hd j oj hj).1, List.all_eq_true] at this
    have := this t e2
    rw [List.all_eq_true] at this
    have := this i (hd i oi hi).2
    rw [(hd i oi hi).1, e1] at this
    simpa using this
  · rw [List.all_eq_true] at h6
    have := h6 i (hd i oi hi).2
    rw [(hd i oi hi).1, e1] at this
    simp only [Bool.not_true, Bool.false_or, List.all_eq_true] at this
    have := this j (hd j oj hj).2
    rw [(hd j oj hj).1, e2] at this
    simp only [Bool.or_eq_true, beq_iff, Bool.not_true, Bool.false_eq_true, or_false, hne, false_or] at this
    exact this

theorem drawWith_sound (hcall : CallerOk P call) {tmps tmps' : Env} {H H' : Heap} {n n' : Nat} {a : Act} {w : World} {c : Ctx} {Q : Exit → Act → World → Prop} (h : aDrawWith P call ops pr B π tmps H n = some (tmps', H', n'))
    (ht : ERel w c tmps a) (hH : HRel w c H) (hn : ∀ r, c.dom r → r < n)
    (hQ : ∀ a' w' c', a'.defers = a.defers → ERel w' c' tmps' a' → Mv w c H n w' c' H' n' → Q .normal a' w') (l : List Nat) (hl : Lin ops.size pr [] l) : wpOps P ops Q l a w := by
  unfold aDrawWith at h
  cases hok : drawOk ops pr B π with
  | false => rw [hok, cond_false] at h; cases h
  | true =>
    rw [hok, cond_true] at h
    split at h
    · rename_i dN hrun
      simp only [Option.some.injEq, Prod.mk.injEq] at h
      obtain ⟨rfl, rfl, rfl⟩ := h
      obtain ⟨k1, k2, k3, k4, k5, k6⟩ := drawOk_spec hok
      refine draw_main (n0 := n) (w0 := w) (c0 := c) (H0 := H) (a0 := a) hcall ⟨k1, k3, k4, k5, k6, hrun⟩ hH hQ l [] [] π { tmps, C := H, n := n + ops.size, pend := [], done := [], hist := [H], loads := [] } H a w c hl ?_
      exact {
        closed := fun s hs => by cases hs
        split := rfl
        run1 := rfl
        run2 := hrun
        pend := rfl
        hist := ⟨[], rfl⟩
        effIn := fun i hi => by cases hi
        effOut := fun i hi he hm => by cases hm
        alIn := fun i hi => by cases hi
        heap := fun r => by unfold xat; simp
        apart := fun k hk hks => by cases hks
        free := fun k hk hks h => by have := hn _ h; omega
        mv := by
          have m := Mv.refl hH hn
          exact ⟨m.ext, m.keep, m.priv, m.img, m.rel, by simp, fun r hr => ⟨by have := hn r hr; simp only; omega, .inl hr⟩⟩
        lo := Nat.le_refl _
        defers := rfl
        tm := ⟨ht.size, fun i o t hi => (by cases hi), fun t _ => ht.get t⟩ }
    · cases h

end

section
variable {P : Program} {w : World} {c : Ctx}

theorem region_draw {call : Caller} (hm : P.follows .mixedOrders = true) (hcall : CallerOk P call) {ops : Array Oper} {id : Nat} {Q : Exit → Act → World → Prop} {tmps tmps' : Env} {H H' : Heap} {n n' : Nat} {a : Act} (h : aDraw P call ops tmps H n = some (tmps', H', n'))
    (ht : ERel w c tmps a) (hH : HRel w c H) (hn : ∀ r, c.dom r → r < n)
    (hQ : ∀ a' w' c', a'.defers = a.defers → ERel w' c' tmps' a' → Mv w c H n w' c' H' n' → Q .normal a' w') : (Code.region id ops true).wp P Q a w := by
  refine wp_region_draw fun t => ?_
  rw [hm]
  show wpOps P ops Q (Region.schedule true ops t) a w.drew
  have ht' : ERel w.drew c tmps a := ht.mono Ext.drew
  have hQ' : ∀ a' w' c', a'.defers = a.defers → ERel w' c' tmps' a' → Mv w.drew c H n w' c' H' n' → Q .normal a' w' := fun a' w' c' h1 h2 h3 => hQ a' w' c' h1 h2 ((Mv.drew hH hn).trans hH h3)
  unfold aDraw at h
  have lins : ∀ {pr : List (List Nat)} {B π : List Nat} {r}, (∀ j e, e ∈ (predsOf ops).getD j [] → e ∈ pr.getD j []) → aDrawWith P call ops pr B π tmps H n = some r → Lin ops.size (predsOf ops) [] (Region.schedule true ops t) := fun {pr B π r} hpr hd => by
    unfold aDrawWith at hd
    cases hok : drawOk ops pr B π with
    | false => rw [hok, cond_false] at hd; cases hd
    | true =>
      obtain ⟨k1, k2, _⟩ := drawOk_spec hok
      refine lin_schedule (π := π) ?_ k2 t
      have key : ∀ (l S : List Nat), Lin ops.size pr S l → Lin ops.size (predsOf ops) S l := by
        intro l
        induction l with
        | nil => intro S h; exact h
        | cons j l ih => intro S h; exact ⟨h.1, h.2.1, fun e he => h.2.2.1 e (hpr j e he), ih _ h.2.2.2⟩
      exact key _ _ k1
  split at h
  · exact drawWith_sound hcall h ht' hH.drew hn hQ' _ (lins (fun _ _ h => h) h)
  · rename_i x y hop
    split at h
    · rename_i t1 H1 n1 t2 H2 n2 h1 h2
      cases hb : envEq t1 t2 && heapEq H1 H2 && Nat.beq n1 n2 with
      | false => rw [hb, cond_false] at h; cases h
      | true =>
        rw [hb, cond_true] at h
        simp only [Option.some.injEq, Prod.mk.injEq] at h
        obtain ⟨rfl, rfl, rfl⟩ := h
        simp only [Bool.and_eq_true, beq_iff] at hb
        obtain ⟨⟨b1, b2⟩, b3⟩ := hb
        have hsub : ∀ u v j e, e ∈ (predsOf ops).getD j [] → e ∈ (prAdd (predsOf ops) u v).getD j [] := fun u v j e he => by
          unfold prAdd
          rw [List.getD_eq_getElem?_getD, List.getElem?_mapIdx]
          rw [List.getD_eq_getElem?_getD] at he
          cases hj : (predsOf ops)[j]? with
          | none => rw [hj] at he; simp at he
          | some l =>
            rw [hj] at he
            simp only [Option.map_some, Option.getD_some] at he ⊢
            cases Nat.beq j v with
            | true => exact List.mem_cons_of_mem _ he
            | false => exact he
        have hlin := lins (hsub x y) h1
        have hxy : x < y ∧ y < ops.size := by
          have := List.mem_of_find?_eq_some hop
          simp only [List.mem_flatMap, List.mem_range, List.mem_map, Prod.mk.injEq] at this
          obtain ⟨j, hj, i, hi, rfl, rfl⟩ := this
          exact ⟨hi, hj⟩
        rcases Lin.pair (x := x) (y := y) (by omega) (by omega) _ _ hlin (by simp) (by simp) with hl | hl
        · exact drawWith_sound hcall h1 ht' hH.drew hn hQ' _ hl
        · obtain ⟨e1, e2⟩ := envEq_eq b1
          refine drawWith_sound hcall h2 ht' hH.drew hn (fun a' w' c' g1 g2 g3 => hQ' a' w' c' g1 ?_ ?_) _ hl
          · refine erel_of (by rw [g2.size, e1]) fun t => ?_
            have := g2.get t
            by_cases hlt : t < t1.N
            · rw [e2 t hlt]; exact this
            · have f1 : t1.get t = undefA := by
                unfold Env.get
                cases hb : Nat.blt t t1.N with
                | true => exact absurd (blt_iff.1 hb) hlt
                | false => rfl
              have f2 : t2.get t = undefA := by
                unfold Env.get
                cases hb : Nat.blt t t2.N with
                | true => exact absurd (blt_iff.1 hb) (by rw [← e1]; exact hlt)
                | false => rfl
              rw [f1, ← f2]
              exact this
          · rw [b3]
            exact g3.congr (heapEq_eq b2)
    · cases h

end
end Go.Va
