/- A store of the law's own: what each call makes of it. -/
import Derived.Test.YtafeiankpckijaaBB
namespace Go.Proofs.Ytafeiankpckijaa
open Go.RowKit
set_option linter.unusedSimpArgs false
set_option linter.unusedVariables false
section
variable {W w w' : World} {a most room p : Nat} {L : List Chunk} {k : Nat}
theorem Mine.go {w1 : World} {F : Nat → Prop} {q : Nat} {L' : List Chunk} (h : Only (fun _ => False) w w1) (hF : ∀ y, F y → w.heap.size ≤ y) (ht : Then w1 a F most room q L' w') : Mine w w' a most room q L' :=
  Mine.step (p := 0) (L := []) h hF ht
theorem Mine.frame (h : Mine W w a most room p L) (ho : Only (fun _ => False) w w') : Mine W w' a most room p L := by
  obtain ⟨F, h1, h2⟩ := h.rep
  exact ⟨⟨F, h1.frame ho, h2⟩, h.only.trans ho⟩
theorem Mine.made (h : Mine W w a most room p L) : Calls Try.prog 16 #[Ptr a] w fun e w' => e = .returned (.bool true) ∧ w' = w := by
  obtain ⟨F, h1, h2⟩ := h.rep; exact rep_made h1
theorem Mine.list (h : Mine W w a most room p L) : Calls Try.prog 24 #[Ptr a] w fun e w' => ∃ v, e = .returned v ∧ Keys w' v (L.map (·.key)) ∧ Only (fun _ => False) w w' := by
  obtain ⟨F, h1, h2⟩ := h.rep
  refine (rep_list h1).mono ?_
  rintro e w' ⟨v, rfl, h3, h4⟩
  refine ⟨v, rfl, keys_of_owns (B := w.heap.size) (by simpa [List.flatMap_map] using h3) ?_, h4⟩
  intro k hk; obtain ⟨x, hx, rfl⟩ := List.mem_map.1 hk; exact h1.keys x hx
theorem Mine.has (h : Mine W w a most room p L) (hk : k < 65536) : Calls Try.prog 21 #[Ptr a, Sum_ k] w fun e w' => e = .returned (.bool (hasL k L)) ∧ Only (fun _ => False) w w' := by
  obtain ⟨F, h1, h2⟩ := h.rep; exact rep_has h1 hk
theorem Mine.pin (h : Mine W w a most room p L) (hk : k < 65536) (hp : p < 1000000000) : Calls Try.prog 18 #[Ptr a, Sum_ k] w fun e w' => e = .returned (.int .i64 (getE k L)) ∧ Mine W w' a most room (p + 1) (pinL (· + 1) k L) := by
  obtain ⟨F, h1, h2⟩ := h.rep
  refine (rep_pin h1 hk hp).mono ?_
  rintro e w' ⟨rfl, ht⟩; exact ⟨rfl, Mine.go h.only h2 ht⟩
theorem Mine.get (h : Mine W w a most room p L) (hk : k < 65536) : Calls Try.prog 13 #[Ptr a, Sum_ k] w fun e w' => ∃ bo cb, e = .returned (.tuple #[.slice bo (dataOf k L).length cb, .int .i64 (getE k L)]) ∧
      DataAt w' (fun y => w.heap.size ≤ y) bo (dataOf k L) ∧ Mine W w' a most room p (touch k L) ∧ ∀ F, (∃ q, Rep w a F most room q L) → True := by
  obtain ⟨F, h1, h2⟩ := h.rep
  refine (rep_get h1 hk).mono ?_
  rintro e w' ⟨bo, cb, rfl, hd, ht⟩; exact ⟨bo, cb, rfl, hd, Mine.go h.only h2 ht, fun _ _ => trivial⟩
/-- Put of bytes that lie in a box which was made behind the store's blocks. -/
theorem Mine.put_box (h : Mine W w a most room p L) (hk : k < 65536) (cs : List Int) {fr : Nat × Nat} {wb w2 : World} (hb : wb = w.alloc (.cells ((cs.map (Value.int .u8)).toArray) 5 fr)) (ho : Only (fun _ => False) wb w2) (cap : Nat) (hl : cs.length ≤ 1000000) :
    Calls Try.prog 17 #[Ptr a, Sum_ k, .slice (some ⟨w.heap.size, 0, none⟩) cs.length cap] w2 fun e w' => e = .returned (.int .i64 (putE most room k cs.length L)) ∧ Mine W w' a most room p (putL most room k cs L) := by
  subst hb
  obtain ⟨F, h1, h2⟩ := h.rep
  have ho' : Only (fun _ => False) w w2 := ((Only.refl _ w).alloc _).trans ho
  have hd : DataAt w2 (fun y => ¬ F y) (some ⟨w.heap.size, 0, none⟩) cs := fun j hj => by
    refine ⟨_, rfl, ho.cell ?_ (fun h => h), fun hf => absurd (h1.low _ hf) (by simp)⟩
    have ha : (⟨w.heap.size, 0, none⟩ : Addr).add j = ⟨w.heap.size, j, none⟩ := by unfold Addr.add; split <;> simp_all
    rw [ha, cell_of_row _ _ _ _ _ _ (heap_alloc_new _ _)]
    simp [List.getD, hj]
  refine (rep_put (h1.frame ho') hk hd hl).mono ?_
  rintro e w' ⟨rfl, ht⟩; exact ⟨rfl, Mine.go (h.only.trans ho') h2 ht⟩
end
section
variable {W w w' : World} {a most room p : Nat} {L : List Chunk} {k : Nat}
theorem Mine.unpin (h : Mine W w a most room p L) (hk : k < 65536) (hp : p < 1000000000) : Calls Try.prog 19 #[Ptr a, Sum_ k] w fun e w' => e = .returned (.int .i64 (unpinE k L)) ∧ Mine W w' a most room p (pinL (· - 1) k L) := by
  obtain ⟨F, h1, h2⟩ := h.rep
  refine (rep_unpin h1 hk hp).mono ?_
  rintro e w' ⟨rfl, ht⟩; exact ⟨rfl, Mine.go h.only h2 ht⟩
theorem Mine.evict (h : Mine W w a most room p L) (hk : k < 65536) : Calls Try.prog 20 #[Ptr a, Sum_ k] w fun e w' => e = .returned (.int .i64 (getE k L)) ∧ Mine W w' a most room p (oth k L) := by
  obtain ⟨F, h1, h2⟩ := h.rep
  refine (rep_evict h1 hk).mono ?_
  rintro e w' ⟨rfl, ht⟩; exact ⟨rfl, Mine.go h.only h2 ht⟩
theorem Mine.wipe (h : Mine W w a most room p L) : Calls Try.prog 15 #[Ptr a] w fun e w' => e = .returned (.tuple #[]) ∧ Mine W w' a most room 0 [] := by
  obtain ⟨F, h1, h2⟩ := h.rep
  refine (rep_wipe h1).mono ?_
  rintro e w' ⟨rfl, ht⟩; exact ⟨rfl, Mine.go h.only h2 ht⟩
theorem Mine.len (h : Mine W w a most room p L) : Calls Try.prog 22 #[Ptr a] w fun e w' => e = .returned (.int .i64 L.length) ∧ w' = w := by
  obtain ⟨F, h1, h2⟩ := h.rep; exact rep_len h1
theorem Mine.bytes (h : Mine W w a most room p L) : Calls Try.prog 23 #[Ptr a] w fun e w' => e = .returned (.int .i64 (sB L)) ∧ w' = w := by
  obtain ⟨F, h1, h2⟩ := h.rep; exact rep_bytes h1
/-- Put of bytes that lie in old memory. -/
theorem Mine.put (h : Mine W w a most room p L) (hk : k < 65536) {ao : Option Addr} {b : List Int} (hd : DataAt W (fun y => y < W.heap.size) ao b) (cap : Nat) (hl : b.length ≤ 1000000) :
    Calls Try.prog 17 #[Ptr a, Sum_ k, .slice ao b.length cap] w fun e w' => e = .returned (.int .i64 (putE most room k b.length L)) ∧ Mine W w' a most room p (putL most room k b L) := by
  obtain ⟨F, h1, h2⟩ := h.rep
  refine (rep_put h1 hk ((hd.mono (fun y hy hf => by have := h2 y hf; omega)).frame' h.only) hl).mono ?_
  rintro e w' ⟨rfl, ht⟩; exact ⟨rfl, Mine.go h.only h2 ht⟩
theorem Mine.does (h : Mine W w a most room p L) (hp : p < 1000000000) {d : D} (hd : DataAt W (fun y => y < W.heap.size) d.ao d.b) (hl : d.b.length ≤ 1000000) :
    Calls Try.prog 35 #[Ptr a, .agg d.cells.toArray] w fun e w' => e = .returned (.int .i64 (doE most room d L)) ∧ Mine W w' a most room (p + 1) (doL most room d L) := by
  obtain ⟨F, h1, h2⟩ := h.rep
  refine (does_any h1 hp ((hd.mono (fun y hy hf => by have := h2 y hf; omega)).frame' h.only) hl).mono ?_
  rintro e w' ⟨rfl, ht⟩; exact ⟨rfl, Mine.go h.only h2 ht⟩
theorem Mine.bounds (h : Mine W w a most room p L) : L.length ≤ most ∧ sB L ≤ room ∧ 1 ≤ most ∧ most ≤ 64 ∧ 1 ≤ room ∧ room ≤ 8192 := by
  obtain ⟨F, h1, h2⟩ := h.rep; exact h1.bounds
theorem Mine.nodup (h : Mine W w a most room p L) : (L.map (·.key)).Nodup := by
  obtain ⟨F, h1, h2⟩ := h.rep; exact h1.nodup
theorem Mine.keys (h : Mine W w a most room p L) : ∀ x ∈ L, x.key < 65536 := by
  obtain ⟨F, h1, h2⟩ := h.rep; exact h1.keys
theorem Mine.pins (h : Mine W w a most room p L) : ∀ x ∈ L, x.pins ≤ p := by
  obtain ⟨F, h1, h2⟩ := h.rep; exact h1.pins
end
end Go.Proofs.Ytafeiankpckijaa
