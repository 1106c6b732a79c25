/- VmNone: the closed evaluation, by the kernel. -/
import Derived.Test.YtdldbhjhejdhdaaGreatDoorVaTryz
set_option maxRecDepth 1000000
namespace Go.Va
open Go.Proofs Go.RowKit

theorem vmNone_answer : answer 7 5000 [.agg [.any, .any, .any, .any]] = 1 := by kernel_rfl

theorem vmNone_calls (cs : Array Value) (hs : cs.size = 4) (w : World) : Calls Tryz.prog 7 #[.agg cs] w fun e w' => e = .returned (.bool true) ∧ Below w.heap.size w w' := by
  refine calls_of_answer vmNone_answer w _ ⟨_, [], rfl, ⟨cs, rfl, ?_⟩, rfl⟩
  obtain ⟨l⟩ := cs
  match l, hs with
  | [a, b, c, d], _ => exact ⟨a, _, rfl, trivial, b, _, rfl, trivial, c, _, rfl, trivial, d, [], rfl, trivial, rfl⟩

end Go.Va
