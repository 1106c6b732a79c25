/- THE ROW OF VmNone, AND ITS TIED CARD. -/
import Derived.Test.YtdldbhjhejdhdaaGreatDoorRows
import Derived.Test.YtdldbhjhejdhdaaGreatDoorCards
import Derived.Test.YtdldbhjhejdhdaaGreatDoorTie
import Derived.Test.YtdldbhjhejdhdaaGreatDoorVaNone
import Derived.ProofKit
import Derived.LaidMore
import Derived.Lay
import Derived.OpenShut
import Derived.SevenTiedAt
import Derived.Stop.Joined
namespace Go.Proofs.YtdldbhjhejdhdaaGreatDoor
open Go Go.ChangeShapes Go.WideShapes Go.ChangeAt Go.RowKit

theorem own : ownKnob Tryz.prog.godebug = none := by kernel_rfl
theorem laidOut : laidOutB Tryz.prog = true := by kernel_rfl

set_option maxRecDepth 100000 in
theorem vmNone_witness (os : Os) (H : Type) (enc : TypeId × Value → H) : ∃ (w : World) (tape : Tape) (i : Input), w.os = os ∧ (w.forCall tape i).Shaped Tryz.prog ∧ i.vars = [] ∧ Input.okWide Tryz.prog (w.forCall tape i) .any w.heap.size 7 i ∧
      ((Rows.vmNoneSpec.pre enc Tryz.prog Tryz.f7 Rows.vmNoneRow.domain false (w.forCall tape i).memory i.args ∧ laidMetH Tryz.prog Rows.vmNoneRow.laid (w.forCall tape i).memory) ∧ sizedMet enc Tryz.prog Tryz.f7 (OpenSpec.ofChange Rows.vmNoneSpec) false (w.forCall tape i).memory i.args) ∧ ({} : Assume).holds Tryz.prog (lone (Frame.enter Tryz.prog 7 i.args .normal) [] (w.forCall tape i)) :=
  ChangeSpec.witness_shaped (enc := enc) (C := Tryz.checked) (os := os) (f := 7) (fn := Tryz.f7) (s := Rows.vmNoneSpec) (conds := Rows.vmNoneRow.domain) (apart := false) (X := fun w _ => laidMetH Tryz.prog Rows.vmNoneRow.laid w) false (World.laidAll Tryz.prog os Rows.vmNoneRow.laid) #[.agg #[.slice none 0 0, .int .i64 0, .slice none 0 0, .slice none 0 0]] 8 (World.laidAll_os _ _ _)
    (World.shaped_of_ZipB (by kernel_rfl) (by kernel_rfl)) (by kernel_rfl) (by kernel_rfl) (by kernel_rfl)
    (by rw [MakeChecks.laidMetH_plain _ _ _ (by kernel_rfl)]; exact laidMet_laidAll _ (by kernel_rfl) (by kernel_rfl))

set_option maxRecDepth 100000 in
theorem vmNone_lifted (os : Os) (started : os.Started) (H : Type) (enc : TypeId × Value → H) :
    ReturnsInHanded {} Tryz.checked os 7 .any (fun w args => (Rows.vmNoneSpec.pre enc Tryz.prog Tryz.f7 Rows.vmNoneRow.domain false w args ∧ laidMetH Tryz.prog Rows.vmNoneRow.laid w) ∧ sizedMet enc Tryz.prog Tryz.f7 (OpenSpec.ofChange Rows.vmNoneSpec) false w args)
      (Rows.vmNoneSpec.post enc Tryz.prog Tryz.f7 false true false false) := by
  refine returnsInHanded_of_change_and (C := Tryz.checked) (X := fun w _ => laidMetH Tryz.prog Rows.vmNoneRow.laid w) (fun _ _ _ hh h => h.of_heap hh) own started (by kernel_rfl) Tryz.func7 (vmNone_witness os H enc) ?_
  intro W base args ds gs before hval0 hW hc _ hL _
  have hval : ∀ (j : Nat) t v, Tryz.f7.params[j]? = some t → args[j]? = some v → Value.okWide Tryz.prog W .any base t v := hval0
  have hW' := hW
  obtain ⟨p, q, hA0, hV, rfl, _, _⟩ := hW
  have hA : DataW.TrodAll enc Tryz.prog W 0 (fun _ => true) true Tryz.f7.params.toList args.toList ds p := hA0
  rw [Tryz.params7] at hA hval
  obtain ⟨v0, d0, rfl, rfl, h0⟩ := trodAll_one hA
  obtain ⟨rfl, rfl⟩ := trodVars_none hV
  have hv : Value.okWide Tryz.prog W .any base 33 v0 := hval 0 33 v0 rfl rfl
  unfold Value.okWide at hv
  rw [Tryz.underlying33] at hv
  obtain ⟨cs, rfl, hs, _⟩ := hv
  have c33 : Tryz.prog.cellsOf 33 = 4 := by kernel_rfl
  rw [c33] at hs
  refine (Go.Va.vmNone_calls cs hs W).mono fun e W' ⟨he, hB⟩ => ?_
  subst he
  have hlt : ∀ x ∈ p, x.block < W.heap.size := fun x hx => by simpa using hW'.lt x (by simpa using hx)
  refine ⟨_, rfl, _, _, _, [], p, [], hW', ?_, ?_, ?_, hB.frame _, fun h => by cases h⟩
  · exact trodAll_mk1 (shut_bool Tryz.underlying4 _)
  · exact trodAll_mk1 (Below.trod laidOut (by kernel_rfl) (of_decide_eq_true (by kernel_rfl)) h0 hB hlt)
  · rfl

end Go.Proofs.YtdldbhjhejdhdaaGreatDoor
