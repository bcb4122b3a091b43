/- The document's own store in memory. -/
import Derived.Test.YtafeiankpckijaaOP
namespace Go.Proofs.Ytafeiankpckijaa
open Go.RowKit
set_option linter.unusedSimpArgs false
set_option linter.unusedVariables false
/-- A chunk of the document's store, and where its bytes lie. -/
structure RC where
  key : Nat
  b : List Int
  pins : Nat
  bo : Option Addr
  cap : Nat
def RC.cells (x : RC) : List Value := sumC x.key ++ [.slice x.bo x.b.length x.cap, .int .i64 x.pins]
def RC.ch (x : RC) : Chunk := ⟨x.key, x.b, x.pins⟩
def rcs (R : List RC) : List Value := R.flatMap RC.cells
theorem RC.len (x : RC) : x.cells.length = 34 := by unfold RC.cells; simp [sumC_len]
theorem rcs_len : ∀ R : List RC, (rcs R).length = R.length * 34
  | [] => rfl
  | x :: R => by
    have := rcs_len R
    unfold rcs at this ⊢
    rw [List.flatMap_cons, List.length_append, this, RC.len, List.length_cons]; omega
theorem rcs_app (R S : List RC) : rcs (R ++ S) = rcs R ++ rcs S := by unfold rcs; simp
theorem rcs_get {R : List RC} {i j : Nat} {x : RC} (hi : R[i]? = some x) (hj : j < 34) : (rcs R)[i * 34 + j]? = x.cells[j]? := by
  have h := flat_get 34 RC.cells R i j (fun x _ => RC.len x) hj
  rw [hi] at h
  exact h
theorem RC.one (x : RC) : ∀ u ∈ x.cells, u.oneCell' = true := by
  intro u hu
  unfold RC.cells at hu
  rcases List.mem_append.1 hu with hu | hu
  · obtain ⟨n, rfl, _⟩ := (sumC_ok x.key).2 u hu; rfl
  · simp at hu; rcases hu with rfl | rfl <;> rfl
theorem rcs_one {R : List RC} : ∀ u ∈ rcs R, u.oneCell' = true := by
  intro u hu; obtain ⟨x, _, hx⟩ := List.mem_flatMap.1 hu; exact x.one u hx
theorem under81b : (Try.prog.underlying 81).any (·.isRow) = true := by kernel_rfl
theorem under81 : ∃ d, Try.prog.underlying 81 = some d ∧ d.isRow = true := by
  have h := under81b
  cases hd : Try.prog.underlying 81 with
  | none => rw [hd] at h; cases h
  | some d => rw [hd] at h; exact ⟨d, rfl, h⟩
theorem info81 : (Try.prog.info? 81).map (·.size) = some 34 := by kernel_rfl
theorem under59 : Try.prog.underlying 59 = some (.slice 81) := by kernel_rfl
def zeroRC : RC := ⟨0, [], 0, none, 0⟩
theorem infoAll81 : (Try.prog.info? 81).map (fun i => (i.zero.map (fun z => z.cells.size), i.size, i.bytes)) = some (some 34, 34, 64) := by kernel_rfl
def refHdr (most room : Nat) (v : Value) : Array Value := #[.int .i64 most, .int .i64 room, v]
/-- The document's store, at block r; all that is its own lies in G. -/
structure Ref (W w : World) (r most room : Nat) (R : List RC) (v : Value) (G : Nat → Prop) : Prop where
  hd : w.heap[r]? = some (.cells (refHdr most room v) 61 (0, 0))
  own : w.ownsRow W.heap.size 81 34 v R.length (rcs R)
  ne : ∀ g, v.ownBlock = some g → g ≠ r ∧ G g
  rG : G r
  data : ∀ x ∈ R, DataAt w (fun y => G y ∧ y ≠ r ∧ v.ownBlock ≠ some y) x.bo x.b
  keys : ∀ x ∈ R, x.key < 65536
  low : ∀ y, G y → W.heap.size ≤ y ∧ y < w.heap.size
def grow (G : Nat → Prop) (w w' : World) : Nat → Prop := fun y => G y ∨ (w.heap.size ≤ y ∧ y < w'.heap.size)
section
variable {W w w' : World} {r most room : Nat} {R : List RC} {v : Value} {G : Nat → Prop}
theorem Ref.c0 (h : Ref W w r most room R v G) : w.cell? ⟨r, 0, none⟩ = some (.int .i64 most) := by rw [cell_of_row _ _ _ _ _ _ h.hd]; rfl
theorem Ref.c1 (h : Ref W w r most room R v G) : w.cell? ⟨r, 1, none⟩ = some (.int .i64 room) := by rw [cell_of_row _ _ _ _ _ _ h.hd]; rfl
theorem Ref.c2 (h : Ref W w r most room R v G) : w.cell? ⟨r, 2, none⟩ = some v := by rw [cell_of_row _ _ _ _ _ _ h.hd]; rfl
theorem Ref.lt (h : Ref W w r most room R v G) : r < w.heap.size := (Array.getElem?_eq_some_iff.1 h.hd).1
theorem Ref.beside (h : Ref W w r most room R v G) (hb : Beside G w w') : Ref W w' r most room R v G :=
  ⟨(hb.block r h.lt (fun hn => hn h.rG)).trans h.hd, own_beside h.own hb (fun g hg => (h.ne g hg).2), h.ne, h.rG,
    fun x hx j hj => by
      obtain ⟨ad, e1, e2, e3⟩ := h.data x hx j hj
      exact ⟨ad, e1, hb.cell e2 (by rw [add_block]; exact e3.1), e3⟩, h.keys, fun y hy => ⟨(h.low y hy).1, Nat.lt_of_lt_of_le (h.low y hy).2 (Only.size hb)⟩⟩
/-- The list is set anew. -/
theorem ref_set {w1 : World} {R' : List RC} {v' old : Value} {G' : Nat → Prop} (hd : w1.heap[r]? = some (.cells (refHdr most room old) 61 (0, 0))) (own : w1.ownsRow W.heap.size 81 34 v' R'.length (rcs R')) (ne : ∀ g, v'.ownBlock = some g → g ≠ r ∧ G' g) (rG : G' r)
    (data : ∀ x ∈ R', DataAt w1 (fun y => G' y ∧ y ≠ r ∧ v'.ownBlock ≠ some y) x.bo x.b) (keys : ∀ x ∈ R', x.key < 65536) (low : ∀ y, G' y → W.heap.size ≤ y ∧ y < w1.heap.size) :
    w1.cell? ⟨r, 2, none⟩ = some old ∧ w1.frozen? ⟨r, 2, none⟩ = false ∧ Ref W (w1.setCell ⟨r, 2, none⟩ v') r most room R' v' G' ∧ Only (fun y => y = r) w1 (w1.setCell ⟨r, 2, none⟩ v') := by
  have ho : Only (fun y => y = r) w1 (w1.setCell ⟨r, 2, none⟩ v') := Only.setCell (F := fun y => y = r) (Only.refl _ w1) (p := ⟨r, 2, none⟩) (Or.inl rfl) _
  have hb : Beside (fun y => y ≠ r) w1 (w1.setCell ⟨r, 2, none⟩ v') := Only.mono ho (fun y _ e hn => hn e)
  refine ⟨by rw [cell_of_row _ _ _ _ _ _ hd]; rfl, frozen_of_row _ _ _ _ _ hd, ⟨?_, own_beside own hb (fun g hg => (ne g hg).1), ne, rG, fun x hx j hj => ?_, keys, fun y hy => ⟨(low y hy).1, Nat.lt_of_lt_of_le (low y hy).2 ho.size⟩⟩, ho⟩
  · have e := heap_setCell_same w1 r 2 _ 61 v' hd
    rw [e]; rfl
  · obtain ⟨ad, e1, e2, e3⟩ := data x hx j hj
    exact ⟨ad, e1, hb.cell e2 (by rw [add_block]; exact e3.2.1), e3⟩
theorem Ref.only (h : Ref W w r most room R v G) (ho : Only (fun _ => False) w w') : Ref W w' r most room R v G := h.beside (Beside.of ho)
theorem Ref.wide (h : Ref W w r most room R v G) {G' : Nat → Prop} (hs : ∀ y, G y → G' y) (hl : ∀ y, G' y → W.heap.size ≤ y ∧ y < w.heap.size) : Ref W w r most room R v G' :=
  ⟨h.hd, h.own, fun g hg => ⟨(h.ne g hg).1, hs g (h.ne g hg).2⟩, hs r h.rG, fun x hx => (h.data x hx).mono (fun y hy => ⟨hs y hy.1, hy.2⟩), h.keys, hl⟩
theorem Ref.row (h : Ref W w r most room R v G) : ∃ lo cap, v = .slice lo R.length cap := by
  obtain ⟨-, h2 | ⟨g, cap, cur, hv, -⟩⟩ := h.own
  · exact ⟨none, 0, by rw [h2.1, h2.2]⟩
  · exact ⟨_, cap, hv⟩
theorem Ref.at (h : Ref W w r most room R v G) {i : Nat} {x : RC} (hx : R[i]? = some x) : ∃ g cap, v = .slice (some ⟨g, 0, none⟩) R.length cap ∧ w.rangeAt g (i * 34) x.cells := by
  have hi := (List.getElem?_eq_some_iff.1 hx).1
  obtain ⟨-, h2 | ⟨g, cap, cur, hv, hB, hg, s1, s2, s3, s4⟩⟩ := h.own
  · omega
  refine ⟨g, cap, hv, fun j u hj => ?_⟩
  have hjl : j < 34 := by rw [← RC.len x]; exact (List.getElem?_eq_some_iff.1 hj).1
  have e := rcs_get hx hjl
  rw [← s4, List.getElem?_take_of_lt (by omega)] at e
  rw [cell_of_row _ _ _ _ _ _ hg, ← hj, ← e]; simp
end
theorem RC.head {w : World} {g o : Nat} {x : RC} (h : w.rangeAt g o x.cells) : w.rangeAt g o (sumC x.key) := fun j u hj => h j u (by
  unfold RC.cells; rw [List.getElem?_append_left (List.getElem?_eq_some_iff.1 hj).1]; exact hj)
theorem RC.slice {w : World} {g o : Nat} {x : RC} (h : w.rangeAt g o x.cells) : w.cell? ⟨g, o + 32, none⟩ = some (.slice x.bo x.b.length x.cap) := h 32 _ (by
  unfold RC.cells; rw [List.getElem?_append_right (by rw [sumC_len]; omega), sumC_len]; rfl)
theorem RC.pinc {w : World} {g o : Nat} {x : RC} (h : w.rangeAt g o x.cells) : w.cell? ⟨g, o + 33, none⟩ = some (.int .i64 x.pins) := h 33 _ (by
  unfold RC.cells; rw [List.getElem?_append_right (by rw [sumC_len]; omega), sumC_len]; rfl)
end Go.Proofs.Ytafeiankpckijaa
