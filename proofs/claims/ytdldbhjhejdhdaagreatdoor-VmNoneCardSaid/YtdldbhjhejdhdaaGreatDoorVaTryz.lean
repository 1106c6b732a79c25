/- VmNone: the closed evaluation. -/
import Derived.Test.YtdldbhjhejdhdaaGreatDoorVaCode2
import Derived.Test.YtdldbhjhejdhdaaGreatDoorVaForce
import Derived.Test.YtdldbhjhejdhdaaGreatDoorChecked
import Derived.Eval
import Derived.Below
set_option maxRecDepth 1000000
namespace Go.Va
open Go.Proofs Go.RowKit

noncomputable def tryzCfg : Cfg := { sig := fun _ => none, pure := fun f => [28, 62, 63, 64, 65, 61, 96, 83, 84, 81, 17, 15, 32, 34].contains f }

noncomputable def answer (f : Nat) (fuel : Nat) (args : List AV) : Nat :=
  match fCall Tryz.prog tryzCfg fuel f args [] 0 with
  | some (.v (.bool true), _, _) => 1
  | some (.v (.bool false), _, _) => 2
  | some _ => 3
  | none => 0

theorem answer_true {f fuel : Nat} {args : List AV} (h : answer f fuel args = 1) : ∃ H n, aCall Tryz.prog tryzCfg fuel f args [] 0 = some (.v (.bool true), H, n) := by
  unfold answer at h
  rw [fCall_eq] at h
  split at h
  · rename_i H n h1; exact ⟨H, n, h1⟩
  all_goals cases h

theorem tryz_mixed : Tryz.prog.follows .mixedOrders = true := Tryz.checked.mixed

theorem tryz_names : NamesOk Tryz.prog := by
  have h : (Tryz.prog.funcs.toList.all fun fn => !(fn.name == "runtime.NumGoroutine")) = true := by kernel_rfl
  intro f fn hf
  rw [List.all_eq_true] at h
  have := h fn (Array.mem_toList_iff.2 (Array.mem_of_getElem? hf))
  simpa using this

theorem tryz_sig : SigOk Tryz.prog tryzCfg := fun f args H n x H' n' h => by cases h

theorem tryz_sound (k : Nat) : CallerOk Tryz.prog (aCall Tryz.prog tryzCfg k) := aCall_sound tryz_mixed tryz_names tryz_sig k

def ctx0 : Ctx := ⟨fun _ => 0, fun _ => False, fun _ => False⟩

theorem hrel0 (w : World) : HRel w ctx0 [] where
  live r b h := by cases h
  inj r s b b' h := by cases h
  own x h := h.elim

/-- What a closed evaluation to true comes to, in whatever world. -/
theorem calls_of_answer {f fuel : Nat} {args : List AV} (h : answer f fuel args = 1) (w : World) (args' : Array Value) (ha : RepL w ctx0 args args'.toList) :
    Calls Tryz.prog f args' w fun e w' => e = .returned (.bool true) ∧ Below w.heap.size w w' := by
  obtain ⟨H, n, hc⟩ := answer_true h
  refine ((tryz_sound fuel f args [] 0 _ _ _ hc).2 w ctx0 args' ha (hrel0 w) (fun r h => h.elim)).mono fun e w' ⟨u, he, c', hu, m⟩ => ?_
  simp only [Rep] at hu
  subst hu
  exact ⟨he, m.ext.os, m.ext.tape, m.ext.output, m.ext.size, fun k hk => m.keep k hk fun r b hb => by cases hb⟩

end Go.Va
