/- The abstract evaluator: append and copy. -/
import Derived.Test.YtdldbhjhejdhdaaGreatDoorVaMem3
set_option linter.unusedVariables false
set_option linter.unusedSimpArgs false
namespace Go.Va

section
variable {P : Program} {w : World} {c : Ctx}

theorem Leaves.congr {s : Sem Value} {x : AV} {H0 H H' : Heap} {n0 n : Nat} (h : Leaves P w c H0 n0 s x H n) (e : ∀ r, hget H' r = hget H r) : Leaves P w c H0 n0 s x H' n := by
  obtain ⟨u, w', c', h1, h2, h3⟩ := h
  exact ⟨u, w', c', h1, h2, h3.congr e⟩

theorem leaves_same {s : Sem Value} {x : AV} {H : Heap} {n : Nat} {u : Value} (hH : HRel w c H) (hn : ∀ r, c.dom r → r < n) (h : s.run P w = .ok u w) (hx : Rep w c x u) : Leaves P w c H n s x H n :=
  ⟨u, w, c, h, hx, Mv.refl hH hn⟩

theorem storeCells_nil {ad : Addr} : (storeCells ad []).run P w = .ok () w := by simp [storeCells]

theorem leaves_grow {t t2 ty elem e2 : TypeId} {i : TypeInfo} {z : List AV} {s x : AV} {u v : Value} {H : Heap} {n len k m : Nat} {base : Option Addr} {cells new : List AV} (hu : P.underlying t = some (.slice elem)) (hu2 : P.underlying t2 = some (.slice e2))
    (hi : P.info? elem = some i) (hz : zeroCells? P elem = some z) (hzl : z.length = i.size) (hs : Rep w c s u) (hx : Rep w c x v) (hH : HRel w c H) (hn : ∀ r, c.dom r → r < n) (e : u = .slice base len k)
    (h1 : srcCells H i.size s = some (cells, len)) (h2 : srcCells H i.size x = some (new, m)) (hgt : k < len + m) (hroom : roomOk (len + m) i.bytes = true) :
    Leaves P w c H n (Builtin.append_ #[t, t2] ty #[u, v]) (.slice n 0 i.size (len + m) none) (hput H n ⟨elem, cells ++ new⟩) (n + 1) := by
  obtain ⟨_, hlen, _⟩ := src_sound (P := P) h2 hx hH
  obtain ⟨vs1, _, a2, a3, a4⟩ := src_sound (P := P) (w := w.drew) (c := c) h1 (Rep.mono Ext.drew _ _ hs) hH.drew
  obtain ⟨vs2, _, b2, b3, b4⟩ := src_sound (P := P) (w := w.drew) (c := c) h2 (Rep.mono Ext.drew _ _ hx) hH.drew
  have a5 := a4 len (Nat.le_refl _)
  rw [List.take_of_length_le (by omega)] at a5
  have b5 := b4 m (Nat.le_refl _)
  rw [List.take_of_length_le (by omega)] at b5
  obtain ⟨cap, zs, h3, h4, h5⟩ := append_grows (ty := ty) hu hu2 hi hz hzl e hlen b5 a5 hgt hroom
  exact leaves_new hH hn h5 (by simpa using a2) (by simpa using b2) h3 h4 (by simpa using a3) (by simpa using b3)

theorem append_sound {t t2 ty : TypeId} {s x y : AV} {u v : Value} {H H' : Heap} {n n' : Nat} (h : aAppend P t t2 s x H n = some (y, H', n')) (hs : Rep w c s u) (hx : Rep w c x v) (hH : HRel w c H) (hn : ∀ r, c.dom r → r < n) :
    Leaves P w c H n (Builtin.append_ #[t, t2] ty #[u, v]) y H' n' := by
  unfold aAppend at h
  split at h
  case h_2 => cases h
  rename_i elem e2 hu hu2
  split at h
  case h_2 => cases h
  rename_i i z hi hz
  cases hzl0 : Nat.beq z.length i.size with
  | false => simp [hzl0] at h
  | true =>
  have hzl := Nat.eq_of_beq_eq_true hzl0
  rw [hzl0] at h
  simp only [Bool.not_true, cond_false] at h
  have hsz : size? P elem = some i.size := by simp [size?, hi]
  split at h
  case h_2 => cases h
  rename_i new m hsrc
  obtain ⟨vs, hlen, hvs, hvl, hfirst⟩ := src_sound (P := P) hsrc hx hH
  have hfm := hfirst m (Nat.le_refl _)
  rw [List.take_of_length_le (by omega)] at hfm
  have hvs0 : m = 0 → vs = [] := fun e => by rw [e, Nat.zero_mul] at hvl; exact List.length_eq_zero_iff.1 hvl
  split at h
  · -- nil
    simp only [Rep] at hs
    subst hs
    cases hm : Nat.beq m 0 with
    | true =>
      rw [hm] at h
      simp only [cond_true, Option.some.injEq, Prod.mk.injEq] at h
      obtain ⟨rfl, rfl, rfl⟩ := h
      have e := Nat.eq_of_beq_eq_true hm
      have e2' := hvs0 e
      subst e
      refine leaves_same (u := .slice none 0 0) hH hn ?_ rfl
      unfold Builtin.append_
      simp only [List.getElem?_toArray, List.getElem?_cons_zero, List.getElem?_cons_succ, Sem.run_bind, run_underlying hu, Result.andThen_ok, run_sizeOf hsz, run_underlying hu2, Sem.run_pure, Bool.false_eq_true, if_false, hlen]
      rw [if_pos (by omega)]
      simp only [Sem.run_bind, Bool.not_false, if_true, hfm, Result.andThen_ok, Sem.run_pure]
    | false =>
      have hne := beq_ne hm
      rw [hm] at h
      simp only [cond_false] at h
      cases hr : roomOk m i.bytes with
      | false => simp [hr] at h
      | true =>
        rw [hr] at h
        simp only [cond_true, Option.some.injEq, Prod.mk.injEq] at h
        obtain ⟨rfl, rfl, rfl⟩ := h
        have := leaves_grow (ty := ty) (s := .v (.slice none 0 0)) (u := .slice none 0 0) (cells := []) (len := 0) hu hu2 hi hz hzl rfl hx hH hn rfl (by simp [srcCells]) hsrc (by omega) (by simpa using hr)
        simpa using this
  · -- a read-only one
    rename_i row len cap
    obtain ⟨ad, k, rfl, hcap, hrow⟩ := id hs
    have hlk := (cap_le hcap)
    cases hm : Nat.beq m 0 with
    | true =>
      rw [hm] at h
      simp only [cond_true, Option.some.injEq, Prod.mk.injEq] at h
      obtain ⟨rfl, rfl, rfl⟩ := h
      have e := Nat.eq_of_beq_eq_true hm
      have e2' := hvs0 e
      subst e
      refine leaves_same hH hn (append_fits hu hu2 hsz rfl hlen hfm (by omega) (by rw [e2']; exact storeCells_nil)) ?_
      exact ⟨ad, k, rfl, hcap, hrow⟩
    | false =>
      have hne := beq_ne hm
      rw [hm] at h
      simp only [cond_false] at h
      split at h
      · rename_i c0
        cases hb : (Nat.blt c0 (len + m) && roomOk (len + m) i.bytes && Nat.ble (len * i.size) row.length) with
        | false => simp [hb] at h
        | true =>
          rw [hb] at h
          simp only [cond_true, Option.some.injEq, Prod.mk.injEq] at h
          obtain ⟨rfl, rfl, rfl⟩ := h
          rw [Bool.and_eq_true, Bool.and_eq_true] at hb
          have hb1 : c0 < len + m := by
            have := Nat.le_of_ble_eq_true (show Nat.ble (c0 + 1) (len + m) = true from hb.1.1)
            omega
          exact leaves_grow (ty := ty) hu hu2 hi hz hzl hs hx hH hn rfl (by simp [srcCells, hb.2]) hsrc (by rw [hcap.1]; exact hb1) hb.1.2
      · cases h
  · -- a private one
    rename_i r off sz len cap
    obtain ⟨hd, k, rfl, hcap, t', n0, hsh, hn0⟩ := id hs
    have hlk := (cap_le hcap)
    cases hm : Nat.beq m 0 with
    | true =>
      rw [hm] at h
      simp only [cond_true, Option.some.injEq, Prod.mk.injEq] at h
      obtain ⟨rfl, rfl, rfl⟩ := h
      have e := Nat.eq_of_beq_eq_true hm
      have e2' := hvs0 e
      subst e
      refine leaves_same hH hn (append_fits hu hu2 hsz rfl hlen hfm (by omega) (by rw [e2']; exact storeCells_nil)) ?_
      exact ⟨hd, k, rfl, hcap, t', n0, hsh, hn0⟩
    | false =>
      have hne := beq_ne hm
      rw [hm] at h
      simp only [cond_false] at h
      cases hz2 : Nat.beq sz i.size with
      | false => simp [hz2] at h
      | true =>
      rw [hz2] at h
      simp only [Bool.not_true, cond_false] at h
      have esz := Nat.eq_of_beq_eq_true hz2
      subst esz
      split at h
      · cases h
      · rename_i b hb
        split at h
        · -- the capacity is known
          rename_i c0
          cases hle : Nat.ble (len + m) c0 with
          | true =>
            rw [hle] at h
            simp only [cond_true] at h
            have hle' := Nat.le_of_ble_eq_true hle
            cases hbb : (Nat.ble (off + (len + m) * i.size) b.cs.length && new.all AV.one) with
            | false => simp [hbb] at h
            | true =>
              rw [hbb] at h
              simp only [cond_true, Option.some.injEq, Prod.mk.injEq] at h
              obtain ⟨rfl, rfl, rfl⟩ := h
              rw [Bool.and_eq_true] at hbb
              have h1 := Nat.le_of_ble_eq_true hbb.1
              have hnl := hvs.length
              obtain ⟨w', h2, h3⟩ := write_sound (P := P) (off := off + len * i.size) hH hn hb hvs (by rw [Nat.add_mul] at h1; omega) (fun y hy => List.all_eq_true.1 hbb.2 y hy)
              refine ⟨_, w', c, append_fits hu hu2 hsz rfl hlen hfm (by rw [hcap.1]; exact hle') ?_, ⟨hd, k, rfl, ⟨hcap.1, hle'⟩, t', n0, ?_, hn0⟩, h3⟩
              · rw [add_plain]; simpa using h2
              · rw [h3.ext.shape _ (lt_of_shape hsh)]; exact hsh
          | false =>
            rw [hle] at h
            simp only [cond_false] at h
            cases hbb : (roomOk (len + m) i.bytes && Nat.ble (off + len * i.size) b.cs.length) with
            | false => simp [hbb] at h
            | true =>
              rw [hbb] at h
              simp only [cond_true, Option.some.injEq, Prod.mk.injEq] at h
              obtain ⟨rfl, rfl, rfl⟩ := h
              rw [Bool.and_eq_true] at hbb
              have hgt : k < len + m := by
                rw [hcap.1]
                cases Nat.lt_or_ge c0 (len + m) with
                | inl h => exact h
                | inr h => rw [Nat.ble_eq_true_of_le h] at hle; cases hle
              exact leaves_grow (ty := ty) hu hu2 hi hz hzl hs hx hH hn rfl (by simp [srcCells, hb, hbb.2]) hsrc hgt hbb.1
        · -- it isn't: the whole row is handed over
          cases hbb : (Nat.beq off 0 && Nat.beq b.t elem && Nat.beq b.cs.length (len * i.size) && roomOk (len + m) i.bytes && new.all AV.one) with
          | false => simp [hbb] at h
          | true =>
            rw [hbb] at h
            simp only [cond_true, Option.some.injEq, Prod.mk.injEq] at h
            obtain ⟨rfl, rfl, rfl⟩ := h
            rw [Bool.and_eq_true, Bool.and_eq_true, Bool.and_eq_true, Bool.and_eq_true] at hbb
            obtain ⟨⟨⟨⟨h1, h2⟩, h3⟩, h4⟩, h5⟩ := hbb
            have e1 := Nat.eq_of_beq_eq_true h1
            have e2' := Nat.eq_of_beq_eq_true h2
            have e3 := Nat.eq_of_beq_eq_true h3
            subst e1
            have hnd : ¬ c.dom n := fun h => by have := hn n h; omega
            have hrn : r ≠ n := fun e => hnd (e ▸ hd)
            by_cases hfit : len + m ≤ k
            · -- in place
              obtain ⟨_, hown, cs', fz, g1, g2, l1, l2, g3, g4⟩ := hH.live r b hb
              have hl1 := g4.length
              have hsz' : cs'.size = n0 := by
                unfold World.shape? at hsh
                rw [g1] at hsh
                simp only [Option.some.injEq, Prod.mk.injEq] at hsh
                exact hsh.2
              have hnl := hvs.length
              have hbound : len * i.size + m * i.size ≤ cs'.size := by
                rw [← Nat.add_mul, hsz']
                exact Nat.le_trans (Nat.mul_le_mul_right _ hfit) (by omega)
              have hone : ∀ v ∈ vs, v.oneCell' = true := fun v hv => by
                obtain ⟨j, hj⟩ := List.getElem?_of_mem hv
                have hlt : j < new.length := by rw [← hnl]; exact (List.getElem?_eq_some_iff.1 hj).1
                obtain ⟨u', h6, h7⟩ := hvs.get (List.getElem?_eq_getElem hlt)
                rw [hj] at h6
                cases h6
                exact h7.one (List.all_eq_true.1 h5 _ (List.getElem_mem hlt))
              obtain ⟨cs2, g5, g6⟩ := run_storeCells (P := P) (b := c.ρ r) (off := len * i.size) (t := b.t) (fz := fz) vs 0 w cs' g1 (by omega) g2 hone
              simp only [Nat.add_zero] at g6
              have hs2 : cs2.size = cs'.size := by
                have := congrArg List.length g6
                simp at this
                rw [this]
                omega
              have hR := Mv.set hH hn hb g1 hs2 (ys := b.cs ++ new) ⟨l1 ++ vs, (cs'.toList.drop (len * i.size + vs.length)), by
                rw [g6, g3, List.take_append_of_le_length (by omega), List.take_of_length_le (by omega)], g4.append hvs⟩
              have hb2 : hget (hput H r { b with cs := b.cs ++ new }) r = some { b with cs := b.cs ++ new } := by rw [hget_hput, if_pos rfl]
              have hR2 := hR.trans hH (Mv.rename hR.rel hR.lt hb2)
              refine Leaves.congr (H := hput (hdel (hput H r { b with cs := b.cs ++ new }) r) n { b with cs := b.cs ++ new }) ?_ fun s => ?_
              · refine ⟨_, _, c.also n (c.ρ r), append_fits hu hu2 hsz rfl hlen hfm hfit (w' := setBlk w (c.ρ r) (.cells cs2 b.t fz)) ?_, ⟨.inl rfl, k, ?_, hfit, t', n0, ?_, hn0⟩, hR2⟩
                · rw [add_plain, Nat.zero_add]; simpa using g5
                · simp [Ctx.also]
                · have e4 : (c.also n (c.ρ r)).ρ n = c.ρ r := by simp [Ctx.also]
                  rw [e4, hR.ext.shape _ (lt_of_shape hsh)]; exact hsh
              · simp only [hget_hput, hget_hdel]
                by_cases e4 : s = n
                · rw [if_pos e4, if_pos e4, ← e2']
                · rw [if_neg e4, if_neg e4]
                  by_cases e5 : s = r
                  · rw [if_pos e5, if_pos e5]
                  · rw [if_neg e5, if_neg e5, if_neg e5]
            · -- a new row
              have hgt : k < len + m := by omega
              have hcells : srcCells H i.size (.slice r 0 i.size len none) = some (b.cs, len) := by
                have : Nat.ble (0 + len * i.size) b.cs.length = true := Nat.ble_eq_true_of_le (by omega)
                simp only [srcCells, hb, Nat.beq_refl, Bool.true_and, this, cond_true, List.drop_zero]
                rw [List.take_of_length_le (by omega)]
              obtain ⟨u', w', c', g1, g2, g3⟩ := leaves_grow (ty := ty) hu hu2 hi hz hzl hs hx hH hn rfl hcells hsrc hgt h4
              refine Leaves.congr (H := hdel (hput H n ⟨elem, b.cs ++ new⟩) r) ⟨u', w', c', g1, g2, g3.del⟩ fun s => ?_
              simp only [hget_hput, hget_hdel]
              by_cases e4 : s = n
              · have : s ≠ r := fun e => hrn (e ▸ e4)
                rw [if_pos e4, if_neg this, if_pos e4]
              · rw [if_neg e4, if_neg e4]
  · cases h

theorem copy_sound {t ty : TypeId} {d x y : AV} {u v : Value} {H H' : Heap} {n n' : Nat} {ts : List TypeId} (h : aCopy P t d x H n = some (y, H', n')) (hd : Rep w c d u) (hx : Rep w c x v) (hH : HRel w c H) (hn : ∀ r, c.dom r → r < n) :
    Leaves P w c H n (Builtin.copy_ (t :: ts).toArray ty #[u, v]) y H' n' := by
  unfold aCopy at h
  split at h
  case h_2 => cases h
  rename_i elem hu
  split at h
  case h_2 => cases h
  rename_i sz hsz
  split at h
  case h_2 => cases h
  rename_i new m hsrc
  obtain ⟨vs, hlen, hvs, hvl, hfirst⟩ := src_sound (P := P) hsrc hx hH
  split at h
  · rename_i r off sz' len cap
    split at h
    · rename_i b hb
      cases hbb : (Nat.beq sz sz' && Nat.ble (off + (Nat.min m len) * sz) b.cs.length && (new.take ((Nat.min m len) * sz)).all AV.one) with
      | false => simp [hbb] at h
      | true =>
        simp only [hbb, cond_true, Option.some.injEq, Prod.mk.injEq] at h
        obtain ⟨rfl, rfl, rfl⟩ := h
        rw [Bool.and_eq_true, Bool.and_eq_true] at hbb
        have h2 := Nat.le_of_ble_eq_true hbb.1.2
        obtain ⟨hdom, k, rfl, _⟩ := hd
        have hnl := hvs.length
        have hk : Nat.min m len ≤ m := Nat.min_le_left _ _
        have h4 : (Nat.min m len) * sz ≤ m * sz := Nat.mul_le_mul_right _ hk
        obtain ⟨w', h5, h6⟩ := write_sound (P := P) (off := off) hH hn hb (hvs.take ((Nat.min m len) * sz)) (by rw [List.length_take]; omega) (fun y hy => List.all_eq_true.1 hbb.2 y hy)
        refine ⟨goInt (Nat.min m len), w', c, ?_, rfl, h6⟩
        unfold Builtin.copy_
        simp only [List.getElem?_toArray, List.getElem?_cons_zero, List.getElem?_cons_succ, Sem.run_bind, run_underlying hu, Result.andThen_ok, hlen, run_sizeOf hsz, hfirst _ hk, h5, Sem.run_pure]
    · cases h
  · simp only [Option.some.injEq, Prod.mk.injEq] at h
    obtain ⟨rfl, rfl, rfl⟩ := h
    simp only [Rep] at hd
    subst hd
    refine leaves_same (u := goInt 0) hH hn ?_ rfl
    unfold Builtin.copy_
    have hk : Nat.min m 0 ≤ m := Nat.min_le_left _ _
    simp only [List.getElem?_toArray, List.getElem?_cons_zero, List.getElem?_cons_succ, Sem.run_bind, run_underlying hu, Result.andThen_ok, hlen, run_sizeOf hsz, hfirst _ hk, Sem.run_pure]
    simp
  · cases h

end
end Go.Va
