/- A store of the law's own, and rows beside it which no call of the store touches. -/
import Derived.Test.YtafeiankpckijaaNN
import Derived.Test.YtafeiankpckijaaCC
namespace Go.Proofs.Ytafeiankpckijaa
open Go.RowKit
set_option linter.unusedSimpArgs false
set_option linter.unusedVariables false
structure Mine2 (W w : World) (a most room p : Nat) (L : List Chunk) (G : Nat → Prop) : Prop where
  rep : ∃ F, Rep w a F most room p L ∧ (∀ y, F y → W.heap.size ≤ y) ∧ ∀ y, G y → ¬ F y
  low : ∀ y, G y → W.heap.size ≤ y ∧ y < w.heap.size
  only : Only (fun _ => False) W w
/-- Nothing but what lies outside these rows has changed. -/
def Beside (G : Nat → Prop) (w w' : World) : Prop := Only (fun y => ¬ G y) w w'
theorem Beside.cell {G : Nat → Prop} {w w' : World} (h : Beside G w w') {p : Addr} {v : Value} (hc : w.cell? p = some v) (hg : G p.block) : w'.cell? p = some v := Only.cell h hc (fun hn => hn hg)
theorem Beside.of {G : Nat → Prop} {w w' : World} (h : Only (fun _ => False) w w') : Beside G w w' := Only.mono h (fun _ _ h => h.elim)
theorem Beside.trans {G : Nat → Prop} {w w1 w' : World} (h : Beside G w w1) (h' : Beside G w1 w') : Beside G w w' := Only.trans h h'
section
variable {W w w' : World} {a most room p k : Nat} {L : List Chunk} {G : Nat → Prop}
theorem Mine2.of (h : Mine W w a most room p L) : Mine2 W w a most room p L (fun _ => False) := by
  obtain ⟨F, h1, h2⟩ := h.rep; exact ⟨⟨F, h1, h2, fun y h => h.elim⟩, fun y h => h.elim, h.only⟩
theorem Mine2.mine (h : Mine2 W w a most room p L G) : Mine W w a most room p L := by
  obtain ⟨F, h1, h2, h3⟩ := h.rep; exact ⟨⟨F, h1, h2⟩, h.only⟩
theorem Mine2.grow (h : Mine2 W w a most room p L G) (ho : Only (fun _ => False) w w') {G' : Nat → Prop} (hG : ∀ y, G' y → G y ∨ (w.heap.size ≤ y ∧ y < w'.heap.size)) : Mine2 W w' a most room p L G' := by
  obtain ⟨F, h1, h2, h3⟩ := h.rep
  refine ⟨⟨F, h1.frame ho, h2, fun y hy hf => ?_⟩, fun y hy => ?_, h.only.trans ho⟩
  · rcases hG y hy with hg | hn
    · exact h3 y hg hf
    · have := h1.low y hf; omega
  · have hs := ho.size
    have hs2 := h.only.size
    rcases hG y hy with hg | hn
    · have := h.low y hg; omega
    · omega
theorem Mine2.frame (h : Mine2 W w a most room p L G) (ho : Only (fun _ => False) w w') : Mine2 W w' a most room p L G := h.grow ho (fun y hy => Or.inl hy)
/-- The rows themselves have changed. -/
theorem Mine2.rows (h : Mine2 W w a most room p L G) (ho : Only G w w') : Mine2 W w' a most room p L G := by
  obtain ⟨F, h1, h2, h3⟩ := h.rep
  exact ⟨⟨F, h1.apart ho (fun k hk hg => h3 k hg hk), h2, h3⟩, fun y hy => ⟨(h.low y hy).1, Nat.lt_of_lt_of_le (h.low y hy).2 ho.size⟩, h.only.trans' ho (fun i hi hg => by have := (h.low i hg).1; omega)⟩
theorem Mine2.step {q : Nat} {L' : List Chunk} {F : Nat → Prop} (h : Mine2 W w a most room p L G) (h1 : Rep w a F most room p L) (h2 : ∀ y, F y → W.heap.size ≤ y) (h3 : ∀ y, G y → ¬ F y) (ht : Then w a F most room q L' w') : Mine2 W w' a most room q L' G ∧ Beside G w w' := by
  obtain ⟨F', r1, r2⟩ := ht.rep
  refine ⟨⟨⟨F', r1, fun y hy => ?_, fun y hg hf => ?_⟩, fun y hy => ⟨(h.low y hy).1, Nat.lt_of_lt_of_le (h.low y hy).2 ht.only.size⟩, h.only.trans' ht.only (fun i hi hf => by have := h2 i hf; omega)⟩, Only.mono ht.only (fun i hi hf hg => h3 i hg hf)⟩
  · have := h.only.size
    rcases r2.new y hy with hf | hn
    · exact h2 y hf
    · omega
  · rcases r2.new y hf with hf | hn
    · exact h3 y hg hf
    · have := (h.low y hg).2; omega
theorem Mine2.has (h : Mine2 W w a most room p L G) (hk : k < 65536) : Calls Try.prog 21 #[Ptr a, Sum_ k] w fun e w' => e = .returned (.bool (hasL k L)) ∧ Only (fun _ => False) w w' := h.mine.has hk
theorem Mine2.pin (h : Mine2 W w a most room p L G) (hk : k < 65536) (hp : p < 1000000000) : Calls Try.prog 18 #[Ptr a, Sum_ k] w fun e w' => e = .returned (.int .i64 (getE k L)) ∧ Mine2 W w' a most room (p + 1) (pinL (· + 1) k L) G ∧ Beside G w w' := by
  obtain ⟨F, h1, h2, h3⟩ := h.rep
  refine (rep_pin h1 hk hp).mono ?_
  rintro e w' ⟨rfl, ht⟩; exact ⟨rfl, h.step h1 h2 h3 ht⟩
theorem Mine2.unpin (h : Mine2 W w a most room p L G) (hk : k < 65536) (hp : p < 1000000000) : Calls Try.prog 19 #[Ptr a, Sum_ k] w fun e w' => e = .returned (.int .i64 (unpinE k L)) ∧ Mine2 W w' a most room p (pinL (· - 1) k L) G ∧ Beside G w w' := by
  obtain ⟨F, h1, h2, h3⟩ := h.rep
  refine (rep_unpin h1 hk hp).mono ?_
  rintro e w' ⟨rfl, ht⟩; exact ⟨rfl, h.step h1 h2 h3 ht⟩
theorem Mine2.put (h : Mine2 W w a most room p L G) (hk : k < 65536) {ao : Option Addr} {b : List Int} (hd : DataAt W (fun y => y < W.heap.size) ao b) (cap : Nat) (hl : b.length ≤ 1000000) :
    Calls Try.prog 17 #[Ptr a, Sum_ k, .slice ao b.length cap] w fun e w' => e = .returned (.int .i64 (putE most room k b.length L)) ∧ Mine2 W w' a most room p (putL most room k b L) G ∧ Beside G w w' := by
  obtain ⟨F, h1, h2, h3⟩ := h.rep
  refine (rep_put h1 hk ((hd.mono (fun y hy hf => by have := h2 y hf; omega)).frame' h.only) hl).mono ?_
  rintro e w' ⟨rfl, ht⟩; exact ⟨rfl, h.step h1 h2 h3 ht⟩
theorem Mine2.get (h : Mine2 W w a most room p L G) (hk : k < 65536) : Calls Try.prog 13 #[Ptr a, Sum_ k] w fun e w' => ∃ bo cb, e = .returned (.tuple #[.slice bo (dataOf k L).length cb, .int .i64 (getE k L)]) ∧
      DataAt w' (fun y => w.heap.size ≤ y ∧ y < w'.heap.size) bo (dataOf k L) ∧ Mine2 W w' a most room p (touch k L) (fun y => G y ∨ (w.heap.size ≤ y ∧ y < w'.heap.size)) ∧ Beside G w w' := by
  obtain ⟨F, h1, h2, h3⟩ := h.rep
  refine (rep_get2 h1 hk).mono ?_
  rintro e w' ⟨bo, cb, rfl, hd, hr, ho⟩
  refine ⟨bo, cb, rfl, fun j hj => ?_, ⟨⟨F, hr, h2, fun y hy hf => ?_⟩, fun y hy => ?_, h.only.trans' ho (fun i hi hf => by have := h2 i hf; omega)⟩, Only.mono ho (fun i hi hf hg => h3 i hg hf)⟩
  · obtain ⟨ad, e1, e2, e3⟩ := hd j hj
    have hb : (ad.add j).block = ad.block := by unfold Addr.add; split <;> rfl
    have := block_lt_of_cell e2
    rw [hb] at this
    exact ⟨ad, e1, e2, e3, this⟩
  · rcases hy with hg | hn
    · exact h3 y hg hf
    · have := h1.low y hf; omega
  · have hs := ho.size
    have hs2 := h.only.size
    rcases hy with hg | hn
    · have := h.low y hg; omega
    · omega
/-- The list: a row of the caller's own. -/
theorem Mine2.list (h : Mine2 W w a most room p L G) : Calls Try.prog 24 #[Ptr a] w fun e w' => ∃ v, e = .returned v ∧ w'.ownsRow w.heap.size 38 32 v L.length (L.flatMap fun x => sumC x.key) ∧ Keys w' v (L.map (·.key)) ∧ Only (fun _ => False) w w' ∧ Mine2 W w' a most room p L (fun y => G y ∨ (w.heap.size ≤ y ∧ y < w'.heap.size)) := by
  obtain ⟨F, h1, h2, h3⟩ := h.rep
  refine (rep_list h1).mono ?_
  rintro e w' ⟨v, rfl, r1, r2⟩
  refine ⟨v, rfl, r1, keys_of_owns (B := w.heap.size) (by simpa [List.flatMap_map] using r1) ?_, r2, h.grow r2 (fun y hy => hy)⟩
  intro k hk; obtain ⟨x, hx, rfl⟩ := List.mem_map.1 hk; exact h1.keys x hx
end
/-- A digest list's rows lie in these blocks alone. -/
theorem Keys.beside {w w' : World} {v : Value} {ks : List Nat} {G : Nat → Prop} (h : Keys w v ks) (hb : Beside G w w') (hG : ∀ g o, (∃ n c, v = .slice (some ⟨g, o, none⟩) n c) → G g) : Keys w' v ks := by
  obtain ⟨ao, cap, rfl, h⟩ := h
  refine ⟨ao, cap, rfl, fun i k hi => ?_⟩
  obtain ⟨h1, g, o, rfl, h3⟩ := h i k hi
  refine ⟨h1, g, o, rfl, ?_⟩
  have hg := hG g o ⟨_, _, rfl⟩
  intro j v hj
  exact hb.cell (h3 j v hj) hg
end Go.Proofs.Ytafeiankpckijaa
