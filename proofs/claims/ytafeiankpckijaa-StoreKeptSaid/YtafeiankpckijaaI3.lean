/- Of a row of calls that comes in: how wide it is, and that a nil one has no capacity. -/
import Derived.Test.YtafeiankpckijaaII
namespace Go.Proofs.Ytafeiankpckijaa
open Go.ChangeShapes Go.WideShapes Go.ChangeAt Go.RowKit Go.Deep
set_option linter.unusedVariables false
theorem dos_more {H : Type} {enc : TypeId × Value → H} {W : World} {base : Nat} {spare : Nat → Bool} {held : Bool} {a : Option Addr} {len cap : Nat} {d : DataW H} {ps : List MemPlace} {ts : List TypeId} {ds : List (DataW H)} {j : Nat}
    (hsz : (DataW.weightsEach Try.prog ts ds).all (· ≤ reachBytes) = true) (ht : ts[j]? = some 48) (hd : ds[j]? = some d)
    (h : DataW.Trod enc Try.prog W base spare held 48 (.slice a len cap) d ps) : len * 48 ≤ 140737488351232 ∧ (a = none → cap = 0) := by
  obtain ⟨fuel, hf⟩ := h
  rcases open_slice Try.underlying48 hf with ⟨hcs, _⟩ | ⟨x, l, c, m, n, Df, Pl, hcs, _, hl, _, hm, hx, hall⟩
  · simp [Value.cells] at hcs
    obtain ⟨rfl, rfl, rfl⟩ := hcs
    exact ⟨by omega, fun _ => rfl⟩
  · simp [Value.cells] at hcs
    obtain ⟨rfl, rfl, rfl⟩ := hcs
    obtain ⟨hx, _⟩ := Prod.mk.inj hx
    subst hx
    have z := sized_slice hsz ht hd Try.underlying48
    rw [show Try.prog.bytesOf 24 = 48 by kernel_rfl] at z
    have hlm : len ≤ m := by rw [hm]; split <;> omega
    refine ⟨?_, fun h => by cases h⟩
    simp at z
    have hr : reachBytes = 140737488351232 := by decide
    omega
end Go.Proofs.Ytafeiankpckijaa
