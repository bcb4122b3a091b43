/- Lists of chunks: what a call makes of one digest's chunk, in plain words. -/
import Derived.Test.YtafeiankpckijaaMM
namespace Go.Proofs.Ytafeiankpckijaa
set_option linter.unusedSimpArgs false
set_option linter.unusedVariables false
theorem has_iff {k : Nat} {L : List Chunk} : hasL k L = true ↔ k ∈ L.map (·.key) := by
  unfold hasL
  rw [List.any_eq_true]
  constructor
  · rintro ⟨x, hx, h⟩; exact List.mem_map.2 ⟨x, hx, by simpa using h⟩
  · intro h; obtain ⟨x, hx, h⟩ := List.mem_map.1 h; exact ⟨x, hx, by simpa using h⟩
theorem has_iff' {k : Nat} {L : List Chunk} : hasL k L = false ↔ k ∉ L.map (·.key) := by
  rw [← has_iff]; simp
theorem has_oth {k : Nat} {L : List Chunk} : hasL k (oth k L) = false := by
  rw [has_iff']; unfold oth; intro h
  obtain ⟨x, hx, rfl⟩ := List.mem_map.1 h
  simpa using (List.mem_filter.1 hx).2
theorem own_pinL {f : Nat → Nat} {k : Nat} : ∀ {L : List Chunk}, own k (pinL f k L) = (own k L).map fun x => { x with pins := f x.pins }
  | [] => rfl
  | x :: L => by
    have ih := own_pinL (f := f) (k := k) (L := L)
    unfold own pinL at *
    by_cases h : x.key = k <;> simp [h, ih]
theorem has_own {k : Nat} {L : List Chunk} : hasL k L = true ↔ own k L ≠ [] := by
  rw [has_iff]; unfold own
  constructor
  · intro h e
    obtain ⟨x, hx, h⟩ := List.mem_map.1 h
    have := List.filter_eq_nil_iff.1 e x hx
    simp [h] at this
  · intro h
    obtain ⟨x, hx⟩ := List.exists_mem_of_ne_nil _ h
    obtain ⟨h1, h2⟩ := List.mem_filter.1 hx
    exact List.mem_map.2 ⟨x, h1, by simpa using h2⟩
theorem keys_pinL {f : Nat → Nat} {k : Nat} {L : List Chunk} : (pinL f k L).map (·.key) = L.map (·.key) := by
  unfold pinL; rw [List.map_map]; refine List.map_congr_left fun x _ => ?_
  show (if x.key = k then _ else x).key = x.key
  split <;> rfl
theorem has_pinL {f : Nat → Nat} {j k : Nat} {L : List Chunk} : hasL j (pinL f k L) = hasL j L := by
  rw [Bool.eq_iff_iff, has_iff, has_iff, keys_pinL]
theorem pins_pinL {f : Nat → Nat} {k : Nat} {L : List Chunk} (h : hasL k L = true) : pinsOf k (pinL f k L) = f (pinsOf k L) := by
  unfold pinsOf; rw [own_pinL]
  cases ho : own k L with
  | nil => exact absurd ho (has_own.1 h)
  | cons x l => rfl
theorem own_app {k : Nat} {L M : List Chunk} : own k (L ++ M) = own k L ++ own k M := by unfold own; simp
theorem own_nil_of {k : Nat} {L : List Chunk} (h : hasL k L = false) : own k L = [] := by
  by_cases e : own k L = []
  · exact e
  · rw [has_own.2 e] at h; cases h
theorem own_new {k : Nat} {L M : List Chunk} {b : List Int} (h : hasL k L = false) (hs : ∀ x ∈ M, x ∈ L) : own k (M ++ [⟨k, b, 0⟩]) = [⟨k, b, 0⟩] := by
  rw [own_app, own_nil_of]
  · simp [own]
  · rw [has_iff'] at h ⊢
    intro hm; obtain ⟨x, hx, rfl⟩ := List.mem_map.1 hm
    exact h (List.mem_map.2 ⟨x, hs x hx, rfl⟩)
theorem own_put {most room k : Nat} {b : List Int} {L : List Chunk} (h : hasL k L = false) (hf : fullL most room b.length L = false) : own k (putL most room k b L) = [⟨k, b, 0⟩] := by
  unfold putL; rw [h, hf]; exact own_new h (fun x hx => mem_trim hx)
theorem put_new {most room k : Nat} {b : List Int} {L : List Chunk} (h : hasL k L = false) (hf : fullL most room b.length L = false) :
    hasL k (putL most room k b L) = true ∧ pinsOf k (putL most room k b L) = 0 ∧ dataOf k (putL most room k b L) = b := by
  have e := own_put h hf
  exact ⟨has_own.2 (by rw [e]; simp), by unfold pinsOf; rw [e]; rfl, by unfold dataOf; rw [e]; rfl⟩
theorem putE_full {most room k n : Nat} {L : List Chunk} (h : hasL k L = false) (hf : fullL most room n L = true) : putE most room k n L = 7 := by
  unfold putE; rw [h, hf]; rfl
theorem putE_free {most room k n : Nat} {L : List Chunk} (h : hasL k L = false) (hf : fullL most room n L = false) : putE most room k n L = 0 := by
  unfold putE; rw [h, hf]; rfl
theorem putE_has {most room k n : Nat} {L : List Chunk} (h : hasL k L = true) : putE most room k n L = 0 := by unfold putE; rw [h]; rfl
theorem getE_has {k : Nat} {L : List Chunk} (h : hasL k L = true) : getE k L = 0 := by unfold getE; rw [h]; rfl
theorem getE_not {k : Nat} {L : List Chunk} (h : hasL k L = false) : getE k L = 90 := by unfold getE; rw [h]; rfl
theorem unpinE_yes {k : Nat} {L : List Chunk} {n : Nat} (h : hasL k L = true) (hp : pinsOf k L = n + 1) : unpinE k L = 0 := by unfold unpinE; rw [h, hp]; rfl
theorem unpinE_zero {k : Nat} {L : List Chunk} (h : hasL k L = true) (hp : pinsOf k L = 0) : unpinE k L = 91 := by unfold unpinE; rw [h, hp]; rfl
theorem unpinE_not {k : Nat} {L : List Chunk} (h : hasL k L = false) : unpinE k L = 90 := by unfold unpinE; rw [h]; rfl
/-- The row of a Do argument in a box. -/
def BoxAt (w : World) (g : Nat) (d : D) : Prop := w.cell? ⟨g, 0, none⟩ = some (.int .i64 d.op) ∧ w.cell? ⟨g, 1, none⟩ = some (.int .i64 d.id) ∧ w.cell? ⟨g, 2, none⟩ = some (.slice d.ao d.b.length d.cap) ∧ w.cell? ⟨g, 3, none⟩ = some (.int .i64 d.n)
theorem BoxAt.frame {w w' : World} {g : Nat} {d : D} (h : BoxAt w g d) (ho : Only (fun _ => False) w w') : BoxAt w' g d :=
  ⟨ho.cell h.1 (fun h => h), ho.cell h.2.1 (fun h => h), ho.cell h.2.2.1 (fun h => h), ho.cell h.2.2.2 (fun h => h)⟩
theorem box_new (w : World) (d : D) (ty : TypeId) : BoxAt (w.alloc (.cells d.cells.toArray ty)) w.heap.size d := by
  have hbox := heap_alloc_new w (.cells d.cells.toArray ty)
  exact ⟨cell_of_row _ _ _ _ _ _ hbox, cell_of_row _ _ _ _ _ _ hbox, cell_of_row _ _ _ _ _ _ hbox, cell_of_row _ _ _ _ _ _ hbox⟩
theorem dos_one {w : World} {g : Nat} {d : D} (h : BoxAt w g d) : Dos w (some ⟨g, 0, none⟩) [d] := by
  intro i x hx
  have hi : i = 0 := by have := (List.getElem?_eq_some_iff.1 hx).1; simp at this; omega
  subst hi
  obtain rfl : d = x := by simpa using hx
  exact ⟨g, 0, rfl, by simpa using h.1, by simpa using h.2.1, by simpa using h.2.2.1, by simpa using h.2.2.2⟩
end Go.Proofs.Ytafeiankpckijaa
