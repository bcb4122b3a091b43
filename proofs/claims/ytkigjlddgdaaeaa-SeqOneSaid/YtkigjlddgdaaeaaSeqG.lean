/- What the rows of flumelaw03 share: a slice of numbers as it comes in. -/
import Derived.Test.YtkigjlddgdaaeaaRows
import Derived.Test.YtkigjlddgdaaeaaSeqB
import Derived.ProofKit
import Derived.OpenShut
import Derived.ShutString
import Derived.ChangeOld
import Derived.SizedLaws
import Derived.Lib.SmallJoins
namespace Go.Proofs.Ytkigjlddgdaaeaa
open Go.ChangeShapes Go.WideShapes Go.ChangeAt Go.RowKit
open Go.ChangeMaps (open_string shut_string)
set_option linter.unusedVariables false
theorem own : ownKnob Try.prog.godebug = none := by kernel_rfl
theorem laidOut : laidOutB Try.prog = true := by kernel_rfl
theorem cells27 : Try.prog.cellsOf 27 = 2 := by kernel_rfl
/-- A slice of numbers, as it came in. -/
theorem open_row {H : Type} {enc : TypeId × Value → H} {W : World} {base : Nat} {spare : Nat → Bool} {held : Bool} {a : Option Addr} {len cap : Nat} {d : DataW H} {ps : List MemPlace} {ts : List TypeId} {ds : List (DataW H)} {j : Nat}
    (hsz : (DataW.weightsEach Try.prog ts ds).all (· ≤ reachBytes) = true) (ht : ts[j]? = some 37) (hd : ds[j]? = some d)
    (h : DataW.Trod enc Try.prog W base spare held 37 (.slice a len cap) d ps) :
    ∃ zs : List Int, len = zs.length ∧ zs.length * 4 ≤ 140737488351232 ∧ RowAt W a zs ∧ (∀ x ∈ zs, 0 ≤ x ∧ x < 4294967296) ∧ (a = none → zs = [] ∧ cap = 0) ∧ ∀ b, a = some b → zs ≠ [] → b.block < W.heap.size := by
  obtain ⟨fuel, hf⟩ := h
  rcases open_ints Try.underlying37 Try.underlying22 (by kernel_rfl) hf with ⟨hcs, _⟩ | ⟨x, l, c, zs, hcs, _, hl, _, hz, hx, hcell, hwz⟩
  · simp [Value.cells] at hcs
    obtain ⟨rfl, rfl, rfl⟩ := hcs
    exact ⟨[], rfl, by simp, fun j hj => absurd hj (by simp), (fun x hx => by cases hx), fun _ => ⟨rfl, rfl⟩, (fun b hb => by cases hb)⟩
  · simp [Value.cells] at hcs
    obtain ⟨rfl, rfl, rfl⟩ := hcs
    obtain ⟨hx, _⟩ := Prod.mk.inj hx
    subst hx
    have z := sized_slice hsz ht hd Try.underlying37
    rw [show Try.prog.bytesOf 22 = 4 by kernel_rfl] at z
    have hl2 : len ≤ zs.length := by
      rw [hz]
      split
      · exact hl
      · exact Nat.le_refl _
    have h1 : (lits (H := H) .u32 (zs.take len)).length + (lits (H := H) .u32 (zs.drop len)).length = zs.length := by
      simp [lits]
      omega
    rw [h1] at z
    have hlen : (zs.take len).length = len := by simp; omega
    have hcell' : ∀ j, j < len → W.cell? (x.add j) = some (.int .u32 ((zs.take len).getD j 0)) := fun j hj => by
      rw [hcell j (by omega)]; simp [List.getD, hj, show j < zs.length by omega]
    refine ⟨zs.take len, hlen.symm, ?_, ?_, ?_, (fun h => by cases h), ?_⟩
    · rw [hlen]; exact Nat.le_trans (Nat.mul_le_mul_right _ hl2) z
    · intro j hj; exact ⟨x, rfl, hcell' j (by omega)⟩
    · intro y hy; exact u32b (hwz y (List.mem_of_mem_take hy))
    · rintro b ⟨⟩ hne
      have hp : 0 < len := by rcases Nat.eq_zero_or_pos len with h | h; · exact absurd (by rw [h]; rfl) hne
                              · exact h
      have := block_lt_of_cell (hcell' 0 hp)
      simpa [Addr.add] using this

end Go.Proofs.Ytkigjlddgdaaeaa
