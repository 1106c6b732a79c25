/- The abstract evaluator: operations that look at no memory, second part. -/
import Derived.Test.YtdldbhjhejdhdaaGreatDoorVaPure
set_option linter.unusedVariables false
set_option linter.unusedSimpArgs false
namespace Go.Va

section
variable {P : Program} {w : World} {c : Ctx}

theorem field_sound {s : TypeId} {x : AV} {u : Value} {f : Nat} {y : AV} (h : aField P s x f = some y) (hx : Rep w c x u) :
    ∃ v, (Instr.field s u f).run P w = .ok v w ∧ Rep w c y v := by
  unfold aField at h
  split at h
  · rename_i fields hu
    split at h
    · rename_i fd cs hf hn
      have hx' := hx.norm
      rw [hn] at hx'
      obtain ⟨cs', rfl, hr⟩ := hx'
      obtain ⟨v, h1, h2⟩ := part_sound (w := w) h hr
      refine ⟨v, ?_, h2⟩
      unfold Instr.field
      simp [Sem.run_bind, run_underlying hu, hf, asAgg, h1]
    · cases h
  · cases h

theorem run_fieldPlace {a : Addr} {f : Field} {n : Nat} (h : size? P f.type = some (n + 1)) : (fieldPlace a f).run P w = .ok (a.add f.offset) w := by
  unfold fieldPlace
  simp [Sem.run_bind, run_sizeOf h]

theorem add_plain (g j k : Nat) : (⟨g, j, none⟩ : Addr).add k = ⟨g, j + k, none⟩ := by
  unfold Addr.add
  split <;> simp_all

theorem fieldAddr_sound {s : TypeId} {x : AV} {u : Value} {f : Nat} {y : AV} (h : aFieldAddr P s x f = some y) (hx : Rep w c x u) :
    ∃ v, (Instr.fieldAt s u f).run P w = .ok v w ∧ Rep w c y v := by
  unfold aFieldAddr at h
  split at h
  · rename_i fields hu
    split at h
    · rename_i fd hf
      split at h
      · rename_i n hs
        split at h
        · rename_i r off
          simp only [Option.some.injEq] at h
          subst h
          obtain ⟨h1, rfl⟩ := hx
          refine ⟨.pointer (some ⟨c.ρ r, off + fd.offset, none⟩), ?_, ⟨h1, rfl⟩⟩
          unfold Instr.fieldAt
          simp [Sem.run_bind, run_underlying hu, hf, Instr.sureAddr, run_fieldPlace hs, add_plain]
        · rename_i row
          simp only [Option.some.injEq] at h
          subst h
          obtain ⟨ad, rfl, h2⟩ := hx
          refine ⟨.pointer (some (ad.add fd.offset)), ?_, ⟨_, rfl, h2.drop _⟩⟩
          unfold Instr.fieldAt
          simp [Sem.run_bind, run_underlying hu, hf, Instr.sureAddr, run_fieldPlace hs]
        · cases h
      · cases h
    · cases h
  · cases h

theorem idx_sound {i : AV} {u : Value} {len k : Nat} (h : idx? i len = some k) (hi : Rep w c i u) : ∃ kd n, u = .int kd n ∧ 0 ≤ n ∧ n < (len : Int) ∧ n.toNat = k := by
  unfold idx? at h
  split at h
  · rename_i kd n
    split at h
    · rename_i hn
      simp only [Option.some.injEq] at h
      simp only [Rep] at hi
      exact ⟨kd, n, hi, hn.1, hn.2, h⟩
    · cases h
  · cases h

theorem indexAddr_sound {t : TypeId} {x i : AV} {u v : Value} {y : AV} (h : aIndexAddr P t x i = some y) (hx : Rep w c x u) (hi : Rep w c i v) :
    ∃ z, (Instr.indexAt t u v).run P w = .ok z w ∧ Rep w c y z := by
  unfold aIndexAddr at h
  split at h
  · rename_i elem hu
    split at h
    · rename_i sz r off sz' len cap hs
      simp only [Option.map_eq_some_iff] at h
      obtain ⟨k, hk, rfl⟩ := h
      obtain ⟨kd, n, rfl, h0, h1, rfl⟩ := idx_sound hk hi
      obtain ⟨hd, m, rfl, _⟩ := hx
      refine ⟨.pointer (some ⟨c.ρ r, off + n.toNat * sz, none⟩), ?_, ⟨hd, rfl⟩⟩
      unfold Instr.indexAt
      simp [Sem.run_bind, asIntOf, run_underlying hu, h0, h1, run_sizeOf hs, add_plain]
    · rename_i sz row len cap hs
      simp only [Option.map_eq_some_iff] at h
      obtain ⟨k, hk, rfl⟩ := h
      obtain ⟨kd, n, rfl, h0, h1, rfl⟩ := idx_sound hk hi
      obtain ⟨ad, m, rfl, _, hrow⟩ := hx
      refine ⟨.pointer (some (ad.add (n.toNat * sz))), ?_, ⟨_, rfl, hrow.drop _⟩⟩
      unfold Instr.indexAt
      simp [Sem.run_bind, asIntOf, run_underlying hu, h0, h1, run_sizeOf hs]
    · cases h
  · rename_i len elem hu
    split at h
    · rename_i sz r off hs
      simp only [Option.map_eq_some_iff] at h
      obtain ⟨k, hk, rfl⟩ := h
      obtain ⟨kd, n, rfl, h0, h1, rfl⟩ := idx_sound hk hi
      obtain ⟨hd, rfl⟩ := hx
      refine ⟨.pointer (some ⟨c.ρ r, off + n.toNat * sz, none⟩), ?_, ⟨hd, rfl⟩⟩
      unfold Instr.indexAt
      simp [Sem.run_bind, asIntOf, run_underlying hu, Instr.sureAddr, h0, h1, run_sizeOf hs, add_plain]
    · rename_i sz row hs
      simp only [Option.map_eq_some_iff] at h
      obtain ⟨k, hk, rfl⟩ := h
      obtain ⟨kd, n, rfl, h0, h1, rfl⟩ := idx_sound hk hi
      obtain ⟨ad, rfl, hrow⟩ := hx
      refine ⟨.pointer (some (ad.add (n.toNat * sz))), ?_, ⟨_, rfl, hrow.drop _⟩⟩
      unfold Instr.indexAt
      simp [Sem.run_bind, asIntOf, run_underlying hu, Instr.sureAddr, h0, h1, run_sizeOf hs]
    · cases h
  · cases h

theorem index_sound {t : TypeId} {x i : AV} {u v : Value} {y : AV} (h : aIndex P t x i = some y) (hx : Rep w c x u) (hi : Rep w c i v) :
    ∃ z, (Instr.index t u v).run P w = .ok z w ∧ Rep w c y z := by
  unfold aIndex at h
  split at h
  · rename_i len elem hu
    split at h
    · rename_i sz cs hs hn
      simp only [Option.bind_eq_some_iff] at h
      obtain ⟨k, hk, h⟩ := h
      obtain ⟨kd, n, rfl, h0, h1, rfl⟩ := idx_sound hk hi
      have hx' := hx.norm
      rw [hn] at hx'
      obtain ⟨cs', rfl, hr⟩ := hx'
      obtain ⟨z, h2, h3⟩ := part_sound (w := w) h hr
      refine ⟨z, ?_, h3⟩
      unfold Instr.index
      simp [Sem.run_bind, asIntOf, run_underlying hu, h0, h1, run_sizeOf hs, h2]
    · cases h
  · cases h

theorem extract_sound {x : AV} {vs : List AV} {u : Value} {i : Nat} {y : AV} (hn : x.norm = .tuple vs) (h : vs[i]? = some y) (hx : Rep w c x u) :
    ∃ z, (Instr.extract u i).run P w = .ok z w ∧ Rep w c y z := by
  have hx' := hx.norm
  rw [hn] at hx'
  obtain ⟨cs', rfl, hr⟩ := hx'
  obtain ⟨z, h1, h2⟩ := hr.get h
  have h3 : cs'[i]? = some z := by simpa using h1
  exact ⟨z, by unfold Instr.extract; simp [h3], h2⟩

/-- An operand that may be left out. -/
def RepO (w : World) (c : Ctx) : Option AV → Option Value → Prop
  | some a, some b => Rep w c a b
  | none, none => True
  | _, _ => False

theorem RepO.map {ev : Operand → AV} {ρ : Operand → Value} {x : Option Operand} (h : ∀ y, x = some y → Rep w c (ev y) (ρ y)) : RepO w c (x.map ev) (x.map ρ) := by
  cases x with
  | none => trivial
  | some y => exact h y rfl

theorem bound_some {a : AV} {v : Value} {dflt most k M : Nat} (h : bound? (some a) dflt most = some k) (hx : Rep w c a v) (hM : most ≤ M) (code : BoundsCode) :
    (Instr.sliceBound v M code).run P w = .ok k w ∧ k ≤ most := by
  cases a with
  | v y =>
    simp only [Rep] at hx
    subst hx
    cases v with
    | int kd n =>
      simp only [bound?] at h
      split at h
      · rename_i hn
        simp only [Option.some.injEq] at h
        refine ⟨?_, by omega⟩
        unfold Instr.sliceBound
        have : n ≤ (M : Int) := by omega
        simp [Sem.run_bind, asIntOf, hn.1, this, h]
      · cases h
    | _ => simp [bound?] at h
  | _ => simp [bound?] at h

/-- The three bounds, where the third is not written. -/
theorem bounds2 {lo hi : Option AV} {lo' hi' : Option Value} {len cap h l : Nat} {K : Nat} (b : Bool) (h1 : bound? hi len K = some h) (h2 : bound? lo 0 h = some l) (hK : K ≤ cap) (hlen : len ≤ K)
    (hlo : RepO w c lo lo') (hhi : RepO w c hi hi') : (Instr.sliceBounds b len cap lo' hi' none).run P w = .ok (l, h, cap) w ∧ l ≤ h ∧ h ≤ K := by
  cases hi with
  | none =>
    cases hi' with
    | some v => exact hhi.elim
    | none =>
      simp only [bound?, Option.some.injEq] at h1
      subst h1
      cases lo with
      | none =>
        cases lo' with
        | some v => exact hlo.elim
        | none =>
          simp only [bound?, Option.some.injEq] at h2
          subst h2
          exact ⟨by unfold Instr.sliceBounds; simp [Sem.run_bind], by omega, by omega⟩
      | some a =>
        cases lo' with
        | none => exact hlo.elim
        | some v =>
          have := bound_some (P := P) (M := len) h2 hlo (by omega) .sliceB
          exact ⟨by unfold Instr.sliceBounds; simp [Sem.run_bind, this.1], this.2, by omega⟩
  | some a =>
    cases hi' with
    | none => exact hhi.elim
    | some v =>
      have hh := fun code => bound_some (P := P) (M := cap) h1 hhi hK code
      cases lo with
      | none =>
        cases lo' with
        | some v => exact hlo.elim
        | none =>
          simp only [bound?, Option.some.injEq] at h2
          subst h2
          exact ⟨by unfold Instr.sliceBounds; cases b <;> simp [Sem.run_bind, (hh _).1], by omega, (hh .index).2⟩
      | some a' =>
        cases lo' with
        | none => exact hlo.elim
        | some v' =>
          have := bound_some (P := P) (M := h) h2 hlo (by omega) .sliceB
          exact ⟨by unfold Instr.sliceBounds; cases b <;> simp [Sem.run_bind, (hh _).1, this.1], this.2, (hh .index).2⟩

/-- All three written but, perhaps, the first. -/
theorem bounds3 {lo : Option AV} {hi mx : AV} {lo' : Option Value} {hi' mx' : Value} {len cap h l m : Nat} {K : Nat} (b : Bool) (h0 : bound? (some mx) 0 K = some m) (h1 : bound? (some hi) m m = some h) (h2 : bound? lo 0 h = some l) (hK : K ≤ cap)
    (hlo : RepO w c lo lo') (hhi : Rep w c hi hi') (hmx : Rep w c mx mx') : (Instr.sliceBounds b len cap lo' (some hi') (some mx')).run P w = .ok (l, h, m) w ∧ l ≤ h ∧ h ≤ m ∧ m ≤ K := by
  have hm := fun code => bound_some (P := P) (M := cap) h0 hmx hK code
  have hh := bound_some (P := P) (M := m) h1 hhi (Nat.le_refl _) .slice3B
  cases lo with
  | none =>
    cases lo' with
    | some v => exact hlo.elim
    | none =>
      simp only [bound?, Option.some.injEq] at h2
      subst h2
      exact ⟨by unfold Instr.sliceBounds; cases b <;> simp [Sem.run_bind, (hm _).1, hh.1], by omega, hh.2, (hm .index).2⟩
  | some a' =>
    cases lo' with
    | none => exact hlo.elim
    | some v' =>
      have := bound_some (P := P) (M := h) h2 hlo (by omega) .slice3C
      exact ⟨by unfold Instr.sliceBounds; cases b <;> simp [Sem.run_bind, (hm _).1, hh.1, this.1], this.2, hh.2, (hm .index).2⟩

theorem cap_le {cap : Option Nat} {len k : Nat} (h : CapOk cap len k) : cap.getD len ≤ k ∧ len ≤ cap.getD len := by
  cases cap with
  | none => exact ⟨h, Nat.le_refl _⟩
  | some m => exact ⟨by simp [h.1], h.2⟩

theorem cap_sub {cap : Option Nat} {len k h l : Nat} (hc : CapOk cap len k) (hl : l ≤ h) (hh : h ≤ cap.getD len) : CapOk (cap.map (· - l)) (h - l) (k - l) := by
  cases cap with
  | none => simp only [CapOk, Option.map_none] at *; simp at hh; omega
  | some m =>
    obtain ⟨rfl, h2⟩ := hc
    simp only [CapOk, Option.map_some]
    simp at hh
    exact ⟨trivial, by omega⟩

/-- The result of a slice expression of a slice. -/
theorem run_slice_at {t : TypeId} {elem : TypeId} {sz : Nat} {a : Addr} {len k : Nat} {lo' hi' mx' : Option Value} {l h m : Nat} (hu : P.underlying t = some (.slice elem)) (hs : size? P elem = some sz)
    (hb : (Instr.sliceBounds true len k lo' hi' mx').run P w = .ok (l, h, m) w) :
    (Instr.sliceAt t (.slice (some a) len k) lo' hi' mx').run P w = .ok (.slice (some (if m = l then a else a.add (l * sz))) (h - l) (m - l)) w := by
  unfold Instr.sliceAt
  simp only [Sem.run_bind, run_underlying hu, Result.andThen_ok]
  unfold Instr.slice
  simp only [Sem.run_bind, run_underlying hu, Result.andThen_ok, hb, run_sizeOf hs, Sem.run_pure]
  split <;> simp

theorem slice_private {ncap : Option Nat} {t elem : TypeId} {sz r off len : Nat} {cap : Option Nat} {u : Value} {lo' hi' mx' : Option Value} {l h : Nat} (hu : P.underlying t = some (.slice elem)) (hs : size? P elem = some sz)
    (hx : Rep w c (.slice r off sz len cap) u) (hb : ∀ k, CapOk cap len k → ∃ m', (Instr.sliceBounds true len k lo' hi' mx').run P w = .ok (l, h, m') w ∧ m' ≤ k ∧ h ≤ m' ∧ l ≤ h ∧ m' ≠ l ∧ CapOk ncap (h - l) (m' - l)) :
    ∃ z, (Instr.sliceAt t u lo' hi' mx').run P w = .ok z w ∧ Rep w c (.slice r (off + l * sz) sz (h - l) ncap) z := by
  obtain ⟨hd, k, rfl, hcap, t', n', hsh, hn'⟩ := hx
  obtain ⟨m', h1, h2, h3, h4, h5, h6⟩ := hb k hcap
  refine ⟨_, run_slice_at hu hs h1, ⟨hd, m' - l, ?_, h6, t', n', hsh, ?_⟩⟩
  · rw [if_neg h5, add_plain]
  · have e1 : m' * sz ≤ k * sz := Nat.mul_le_mul_right _ h2
    have e2 : l * sz + (m' - l) * sz = m' * sz := by rw [← Nat.add_mul]; congr 1; omega
    omega

theorem slice_empty {t elem : TypeId} {sz len k : Nat} {a : Addr} {lo' hi' mx' : Option Value} {l h m : Nat} {ncap : Option Nat} (hu : P.underlying t = some (.slice elem)) (hs : size? P elem = some sz)
    (hb : (Instr.sliceBounds true len k lo' hi' mx').run P w = .ok (l, h, m) w) (e : h = l) (hc : CapOk ncap 0 (m - l)) :
    ∃ z, (Instr.sliceAt t (.slice (some a) len k) lo' hi' mx').run P w = .ok z w ∧ Rep w c (.rslice [] 0 ncap) z := by
  subst e
  refine ⟨_, run_slice_at hu hs hb, ⟨(if m = h then a else a.add (h * sz)), m - h, ?_, hc, ?_⟩⟩
  · rw [Nat.sub_self]
  · simp [RepRow]

theorem slice_ro {t elem : TypeId} {sz len k : Nat} {row : List AV} {a : Addr} {lo' hi' mx' : Option Value} {l h m : Nat} {ncap : Option Nat} (hu : P.underlying t = some (.slice elem)) (hs : size? P elem = some sz)
    (hrow : RepRow w c row a) (hb : (Instr.sliceBounds true len k lo' hi' mx').run P w = .ok (l, h, m) w) (e : m ≠ l) (hc : CapOk ncap (h - l) (m - l)) :
    ∃ z, (Instr.sliceAt t (.slice (some a) len k) lo' hi' mx').run P w = .ok z w ∧ Rep w c (.rslice (row.drop (l * sz)) (h - l) ncap) z := by
  refine ⟨_, run_slice_at hu hs hb, ⟨_, m - l, rfl, hc, ?_⟩⟩
  rw [if_neg e]
  exact hrow.drop _

theorem beq_ne {a b : Nat} (h : Nat.beq a b = false) : a ≠ b := fun e => by subst e; simp at h

theorem slice_sound {t : TypeId} {x : AV} {u : Value} {lo hi mx : Option AV} {lo' hi' mx' : Option Value} {y : AV} (h : aSliceOf P t x lo hi mx = some y) (hx : Rep w c x u)
    (hlo : RepO w c lo lo') (hhi : RepO w c hi hi') (hmx : RepO w c mx mx') : ∃ z, (Instr.sliceAt t u lo' hi' mx').run P w = .ok z w ∧ Rep w c y z := by
  unfold aSliceOf at h
  split at h
  · rename_i elem hu
    split at h
    · -- a private slice
      rename_i sz r off sz' len cap hs
      split at h
      · -- two bounds
        cases mx' with
        | some v => exact hmx.elim
        | none =>
        split at h
        · rename_i hh h1
          split at h
          · rename_i l h2
            have hB : ∀ k, CapOk cap len k → (Instr.sliceBounds true len k lo' hi' none).run P w = .ok (l, hh, k) w ∧ l ≤ hh ∧ hh ≤ cap.getD len := fun k hk =>
              bounds2 true h1 h2 (cap_le hk).1 (cap_le hk).2 hlo hhi
            cases hb : (Nat.beq sz sz' && capNe cap l hh) with
            | true =>
              rw [hb] at h
              simp only [cond_true, Option.some.injEq] at h
              subst h
              rw [Bool.and_eq_true] at hb
              have e := Nat.eq_of_beq_eq_true hb.1
              subst e
              refine slice_private hu hs hx fun k hk => ⟨k, (hB k hk).1, Nat.le_refl _, Nat.le_trans (hB k hk).2.2 (cap_le hk).1, (hB k hk).2.1, ?_, cap_sub hk (hB k hk).2.1 (hB k hk).2.2⟩
              have hb2 := hb.2
              have h3 := (hB k hk).2
              cases cap with
              | none =>
                have : l < hh := by
                  have := Nat.le_of_ble_eq_true (show Nat.ble (l + 1) hh = true from hb2)
                  omega
                have := (cap_le hk).1
                omega
              | some m =>
                have : Nat.beq m l = false := by simpa [capNe] using hb2
                have := beq_ne this
                rw [hk.1]
                exact this
            | false =>
              rw [hb] at h
              simp only [cond_false] at h
              cases hb2 : Nat.beq hh l with
              | false => simp [hb2] at h
              | true =>
                rw [hb2] at h
                simp only [cond_true, Option.some.injEq] at h
                have e := Nat.eq_of_beq_eq_true hb2
                obtain ⟨hd, k, rfl, hcap, _⟩ := hx
                have h3 := hB k hcap
                subst h
                refine slice_empty hu hs h3.1 e ?_
                have := cap_sub hcap h3.2.1 h3.2.2
                rwa [e, Nat.sub_self] at this
          · cases h
        · cases h
      · -- three bounds
        rename_i m0
        cases mx' with
        | none => exact hmx.elim
        | some mv =>
        split at h
        · rename_i m h0
          split at h
          · rename_i hh h1
            split at h
            · rename_i l h2
              cases hi with
              | none => simp at h
              | some hi =>
              cases hi' with
              | none => exact hhi.elim
              | some hv =>
              have hB : ∀ k, CapOk cap len k → (Instr.sliceBounds true len k lo' (some hv) (some mv)).run P w = .ok (l, hh, m) w ∧ l ≤ hh ∧ hh ≤ m ∧ m ≤ cap.getD len := fun k hk =>
                bounds3 true h0 h1 h2 (cap_le hk).1 hlo hhi hmx
              simp only [Option.isSome_some, cond_true] at h
              cases hb : Nat.beq m l with
              | true =>
                rw [hb] at h
                simp only [cond_true, Option.some.injEq] at h
                subst h
                have e := Nat.eq_of_beq_eq_true hb
                obtain ⟨hd, k, rfl, hcap, _⟩ := hx
                have h3 := hB k hcap
                exact slice_empty hu hs h3.1 (by omega) ⟨by omega, Nat.le_refl _⟩
              | false =>
                rw [hb] at h
                simp only [cond_false] at h
                cases hb2 : Nat.beq sz sz' with
                | false => simp [hb2] at h
                | true =>
                  rw [hb2] at h
                  simp only [cond_true, Option.some.injEq] at h
                  subst h
                  have e := Nat.eq_of_beq_eq_true hb2
                  subst e
                  exact slice_private hu hs hx fun k hk => ⟨m, (hB k hk).1, Nat.le_trans (hB k hk).2.2.2 (cap_le hk).1, (hB k hk).2.2.1, (hB k hk).2.1, beq_ne hb, ⟨rfl, by have := (hB k hk).2; omega⟩⟩
            · cases h
          · cases h
        · cases h
    · -- a read-only slice
      rename_i sz row len cap hs
      obtain ⟨a, k, rfl, hcap, hrow⟩ := hx
      split at h
      · cases mx' with
        | some v => exact hmx.elim
        | none =>
        split at h
        · rename_i hh h1
          split at h
          · rename_i l h2
            have hB := bounds2 (P := P) (w := w) (c := c) true h1 h2 (cap_le hcap).1 (cap_le hcap).2 hlo hhi
            cases hb : Nat.beq hh l with
            | true =>
              rw [hb] at h
              simp only [cond_true, Option.some.injEq] at h
              subst h
              have e := Nat.eq_of_beq_eq_true hb
              refine slice_empty hu hs hB.1 e ?_
              have := cap_sub hcap hB.2.1 hB.2.2
              rwa [e, Nat.sub_self] at this
            | false =>
              rw [hb] at h
              simp only [cond_false, Option.some.injEq] at h
              subst h
              have := beq_ne hb
              have h5 := (cap_le hcap).1
              exact slice_ro hu hs hrow hB.1 (by omega) (cap_sub hcap hB.2.1 hB.2.2)
          · cases h
        · cases h
      · rename_i m0
        cases mx' with
        | none => exact hmx.elim
        | some mv =>
        split at h
        · rename_i m h0
          split at h
          · rename_i hh h1
            split at h
            · rename_i l h2
              cases hi with
              | none => simp at h
              | some hi =>
              cases hi' with
              | none => exact hhi.elim
              | some hv =>
              have hB := bounds3 (P := P) (w := w) (c := c) (len := len) true h0 h1 h2 (cap_le hcap).1 hlo hhi hmx
              simp only [Option.isSome_some, cond_true] at h
              cases hb : Nat.beq hh l with
              | true =>
                rw [hb] at h
                simp only [cond_true, Option.some.injEq] at h
                subst h
                have e := Nat.eq_of_beq_eq_true hb
                exact slice_empty hu hs hB.1 e ⟨rfl, by omega⟩
              | false =>
                rw [hb] at h
                simp only [cond_false, Option.some.injEq] at h
                subst h
                have := beq_ne hb
                exact slice_ro hu hs hrow hB.1 (by omega) ⟨rfl, by omega⟩
            · cases h
          · cases h
        · cases h
    · cases h
  · cases h

end
end Go.Va
