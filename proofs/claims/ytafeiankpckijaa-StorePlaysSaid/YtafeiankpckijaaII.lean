/- A call that comes in as an argument. -/
import Derived.Test.YtafeiankpckijaaFF
namespace Go.Proofs.Ytafeiankpckijaa
open Go.ChangeShapes Go.WideShapes Go.ChangeAt Go.RowKit Go.Deep
set_option linter.unusedVariables false
theorem open_do {H : Type} {enc : TypeId × Value → H} {W : World} {base : Nat} {r : Reach} {b0 : Nat} {spare : Nat → Bool} {held : Bool} {v : Value} {d : DataW H} {ps : List MemPlace}
    (hv : Value.okWide Try.prog W r b0 24 v) (h : DataW.Trod enc Try.prog W base spare held 24 v d ps) :
    ∃ x : D, v = .agg x.cells.toArray ∧ DataAt W (fun y => y < W.heap.size) x.ao x.b := by
  obtain ⟨cs, rfl, hs⟩ := okWide_struct Try.underlying24 hv
  obtain ⟨fuel, hf⟩ := h
  obtain ⟨x, hx, hd⟩ := one_do hf
  refine ⟨x, ?_, hd⟩
  have hx' : cs.toList = x.cells := hx
  rw [← hx']
theorem size_do {H : Type} {W : World} : True := trivial
end Go.Proofs.Ytafeiankpckijaa
