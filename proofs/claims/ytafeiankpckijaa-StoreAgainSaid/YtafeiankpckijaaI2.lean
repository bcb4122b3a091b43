/- Bytes that come in as an argument. -/
import Derived.Test.YtafeiankpckijaaII
namespace Go.Proofs.Ytafeiankpckijaa
open Go.ChangeShapes Go.WideShapes Go.ChangeAt Go.RowKit Go.Deep
set_option linter.unusedVariables false
theorem open_bytes {H : Type} {enc : TypeId × Value → H} {W : World} {base : Nat} {spare : Nat → Bool} {held : Bool} {a : Option Addr} {len cap : Nat} {d : DataW H} {ps : List MemPlace}
    (h : DataW.Trod enc Try.prog W base spare held 22 (.slice a len cap) d ps) : ∃ zs : List Int, len = zs.length ∧ DataAt W (fun y => y < W.heap.size) a zs := by
  obtain ⟨fuel, hf⟩ := h
  rcases open_ints Try.underlying22 Try.underlying5 (by kernel_rfl) hf with ⟨hcs, _⟩ | ⟨x, l, c, zs, hcs, _, hl, _, hz, _, hcell, hwz⟩
  · simp [Value.cells] at hcs
    obtain ⟨rfl, rfl, rfl⟩ := hcs
    exact ⟨[], rfl, fun j hj => by simp at hj⟩
  · simp [Value.cells] at hcs
    obtain ⟨rfl, rfl, rfl⟩ := hcs
    have hl2 : len ≤ zs.length := by
      rw [hz]
      split
      · exact hl
      · exact Nat.le_refl _
    have hlen : (zs.take len).length = len := by simp; omega
    refine ⟨zs.take len, hlen.symm, fun j hj => ?_⟩
    have hj' : j < len := by simpa [hlen] using hj
    have hc := hcell j (by omega)
    refine ⟨x, rfl, ?_, ?_⟩
    · rw [hc]; simp [List.getD, hj', show j < zs.length by omega]
    · have := block_lt_of_cell hc
      rwa [add_block] at this
end Go.Proofs.Ytafeiankpckijaa
