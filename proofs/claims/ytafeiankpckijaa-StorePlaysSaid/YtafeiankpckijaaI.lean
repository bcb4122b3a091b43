/- slices.Clone at []byte. -/
import Derived.Test.YtafeiankpckijaaA
import Derived.Test.YtafeiankpckijaaK
import Derived.Laws.AppendOwnNone
namespace Go.Proofs.Ytafeiankpckijaa
open Go.RowKit
set_option linter.unusedSimpArgs false
set_option linter.unusedVariables false
theorem info5 : (Try.prog.info? 5).map (fun i => (i.zero, i.size, i.bytes)) = some (some (.int .u8 0), 1, 1) := by kernel_rfl
theorem under22 : Try.prog.underlying 22 = some (.slice 5) := by kernel_rfl
/-- The bytes lie at that address. -/
def Bytes (w : World) (ao : Option Addr) (b : List Int) : Prop := ∀ j, j < b.length → ∃ ad, ao = some ad ∧ w.cell? (ad.add j) = some (.int .u8 (b.getD j 0))
theorem Bytes.frame {w w' : World} {ao : Option Addr} {b : List Int} (h : Bytes w ao b) (ho : Only (fun _ => False) w w') : Bytes w' ao b := fun j hj => by
  obtain ⟨ad, h1, h2⟩ := h j hj
  exact ⟨ad, h1, ho.cell h2 (fun h => h)⟩
/-- A clone's bytes, in new memory. -/
def Cloned (b : List Int) (w : World) (e : Ending) (w' : World) : Prop :=
  ∃ bo cb, e = .returned (.slice bo b.length cb) ∧ (∀ j, j < b.length → ∃ ad, bo = some ad ∧ w'.cell? (ad.add j) = some (.int .u8 (b.getD j 0)) ∧ w.heap.size ≤ ad.block) ∧ Only (fun _ => False) w w'
set_option maxHeartbeats 400000 in
theorem clone_nil (n cap : Nat) (b : List Int) (hb : b = []) (w : World) : Calls Try.prog 29 #[.slice none n cap] w (Cloned b w) := by
  have hq := fun (w : World) => Lib.run_eql_slice_nil (P := Try.prog) w 22 5 none n cap 0 0 under22
  have HB := Lib.hid hb; clear hb
  go_enter Try.func29, Try.ntmps29
  go_wp2
  go_ret
  exact ⟨none, 0, by rw [HB.out]; rfl, fun j hj => absurd hj (by rw [HB.out]; simp), Only.refl _ _⟩
set_option maxHeartbeats 400000 in
theorem clone_row (a : Addr) (b : List Int) (cap : Nat) (w : World) (hm : b.length ≤ 140737488351232) (hc : Bytes w (some a) b) :
    Calls Try.prog 29 #[.slice (some a) b.length cap] w (Cloned b w) := by
  have hq := fun (w : World) => Lib.run_eql_slice_nil (P := Try.prog) w 22 5 (some a) b.length cap 0 0 under22
  obtain ⟨i0, hi, hz0, hz1, hz2⟩ := info_parts info5
  have hnews : ∀ j u, (b.map (Value.int .u8))[j]? = some u → w.cell? (a.add j) = some u := by
    intro j u hu
    obtain ⟨hj, he⟩ := List.getElem?_eq_some_iff.1 hu
    simp at hj
    obtain ⟨_, ha, h⟩ := hc j hj
    obtain rfl := Option.some.inj ha
    rw [h, ← he]; simp [List.getD, hj]
  have HN := Lib.hid hnews; clear hnews hc
  go_enter Try.func29, Try.ntmps29
  go_wp2_with (at_builtin; refine wpList_append_own _ rfl (.tmp 5) (.tmp 6) 22 rfl w.heap.size 5 i0 (.int .u8 0) 1 1 under22 hi hz0 hz1 hz2 rfl (by decide) _ 0 [] rfl ?c0 a b.length cap (b.map (Value.int .u8)) rfl (by simp) ?c1 ?c2 ?c3 ?c4 ?c5 ?_)
  case c0 => exact ⟨rfl, Or.inr ⟨w.heap.size, 0, #[], rfl, Nat.le_refl _, heap_alloc_new _ _, Nat.le_refl _, Nat.zero_le _, rfl, rfl⟩⟩
  case c1 => intro j u hu; have := HN.out j u hu; rw [World.cell?_alloc_lt _ _ _ (block_lt_of_cell this)]; exact this
  case c2 => intro u hu; simp at hu; obtain ⟨x, _, rfl⟩ := hu; rfl
  case c3 => unfold maxLen; omega
  case c4 => omega
  case c5 => simp
  intro v' w1 hown hgrow hne
  have hex : ∃ g cap' cur, v' = .slice (some ⟨g, 0, none⟩) b.length cap' ∧ w.heap.size ≤ g ∧ w1.heap[g]? = some (.cells cur 5 (0, 0)) ∧ cur.toList.take (b.length * 1) = b.map (Value.int .u8) := by
    obtain ⟨_, h | ⟨g, cap', cur, h1, h0, h2, _, _, _, h3⟩⟩ := hown
    · exact absurd h.1 hne
    · exact ⟨g, cap', cur, h1, h0, h2, h3⟩
  obtain ⟨g, cap', cur, hv, hg0, hg, hcur⟩ := hex
  have hbel : Below w.heap.size w w1 := ((Below.refl _ _).alloc (Nat.le_refl _) _).grown hgrow (by simp) (fun k hk => by simp [Value.ownBlock] at hk; omega)
  have hrow : ∀ j, j < b.length → ∃ ad, some (⟨g, 0, none⟩ : Addr) = some ad ∧ w1.cell? (ad.add j) = some (.int .u8 (b.getD j 0)) ∧ w.heap.size ≤ ad.block := by
    intro j hj
    refine ⟨_, rfl, ?_, hg0⟩
    have e : (cur.toList.take (b.length * 1))[j]? = some (.int .u8 (b.getD j 0)) := by rw [hcur]; simp [List.getD, hj]
    rw [List.getElem?_take_of_lt (by omega)] at e
    have ha : (⟨g, 0, none⟩ : Addr).add j = ⟨g, j, none⟩ := by unfold Addr.add; split <;> simp_all
    rw [ha, cell_of_row _ _ _ _ _ _ hg]
    simpa using e
  have HV := Lib.hid hv; clear hv hown hgrow hne hg hcur
  go_wp2
  go_ret
  exact ⟨_, _, congrArg Ending.returned HV.out, hrow, Only.of_below hbel |>.mono (fun _ _ h => h)⟩
theorem clone_any (ao : Option Addr) (b : List Int) (cap : Nat) (w : World) (hm : b.length ≤ 140737488351232) (hc : Bytes w ao b) :
    Calls Try.prog 29 #[.slice ao b.length cap] w (Cloned b w) := by
  cases ao with
  | some a => exact clone_row a b cap w hm hc
  | none =>
    have hb : b = [] := by
      cases b with
      | nil => rfl
      | cons x b => obtain ⟨ad, h, _⟩ := hc 0 (by simp); cases h
    exact clone_nil _ cap b hb w
end Go.Proofs.Ytafeiankpckijaa
