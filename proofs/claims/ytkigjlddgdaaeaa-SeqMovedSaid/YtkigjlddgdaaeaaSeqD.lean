/- The walks of the laws SeqMoved, SeqClipped, SeqParts. -/
import Derived.Test.YtkigjlddgdaaeaaSeqC
import Derived.Deep.RegionHeld3
import Derived.Deep.DrawnRows
namespace Go.Proofs.Ytkigjlddgdaaeaa
open Go.RowKit
attribute [local go_sem ↓] Go.wp_at_zero Go.wp_at_succ

theorem clip_moved (sf sz f s n : Int) : clipI (addI sf n) sz (addI f n) s = clipI sf sz f s := by
  have h1 : df (addI f n) (addI sf n) = df f sf := df_moved _ _ _
  have h2 : df (addI sf n) (addI f n) = df sf f := df_moved _ _ _
  have h3 : (addI sf n - addI f n) % 4294967296 = (sf - f) % 4294967296 := by unfold addI; omega
  unfold clipI; rw [h1, h2, h3]
theorem in_moved (x f s n : Int) : inI (addI x n) (addI f n) s = inI x f s := by
  have h3 : (addI x n - addI f n) % 4294967296 = (x - f) % 4294967296 := by unfold addI; omega
  unfold inI; rw [h3]

set_option maxHeartbeats 1000000 in
theorem moved_law (sf sz f s n : Int) (w : World) (h1 : sz ≤ 9223372036854775807) (h2 : s ≤ 9223372036854775807) :
    Calls Try.prog 9 #[.agg #[.int .u32 sf, .int .i64 sz], .int .u32 f, .int .i64 s, .int .i64 n] w (Yes w) := by
  obtain ⟨p, hp⟩ : ∃ p, p = clipI sf sz f s := ⟨_, rfl⟩
  have k1 := fun w => clip_any sf sz f s w h1 h2
  have k2 := fun w => clip_any (addI sf n) sz (addI f n) s w h1 h2
  have k3 := fun w => in_any (addI sf n) (addI f n) s w
  rw [clip_moved] at k2
  rw [in_moved] at k3
  rw [← hp] at k1 k2
  obtain ⟨x, y⟩ := p
  have K1 := Lib.hid k1; clear k1
  have K2 := Lib.hid k2; clear k2 hp
  have K3 := Lib.hid k3; clear k3
  clear h1 h2
  go_enter Try.func9, Try.ntmps9
  go_wp2_with fail
  refine (K1.out _).mono ?_; rintro e w2 ⟨rfl, hb⟩
  have hc0 : w2.cell? ⟨w.heap.size, 0, none⟩ = some (.int .u32 sf) := by rw [hb.cell (by simp)]; simp
  have hc1 : w2.cell? ⟨w.heap.size, 1, none⟩ = some (.int .i64 sz) := by rw [hb.cell (by simp)]; simp
  have hb2 : Below w.heap.size w w2 := ((Below.refl _ _).alloc (Nat.le_refl _) _).trans (hb.mono (by simp))
  have HS := Lib.hid (show w.heap.size < w2.heap.size from Nat.lt_of_lt_of_le (by simp) hb.size)
  have HB := Lib.hid hb2; clear hb hb2
  go_wp2_with fail
  go_region_held3 (fun w' => w'.cell? ⟨w.heap.size, 0, none⟩ = some (.int .u32 sf) ∧ w'.cell? ⟨w.heap.size, 1, none⟩ = some (.int .i64 sz)) (go_keep) (first | (go_at_call 20; (with_reducible refine (add_any _ _ _).mono ?_); rintro e w3 ⟨rfl, rfl⟩) | (go_at_call 18; (with_reducible refine (K2.out _).mono ?_); rintro e w3 ⟨rfl, hb3⟩; have hd0 := hb3.cell (p := ⟨w.heap.size, 0, none⟩) HS.out; have hd1 := hb3.cell (p := ⟨w.heap.size, 1, none⟩) HS.out))
  have hc30 : w3.cell? ⟨w.heap.size, 0, none⟩ = some (.int .u32 sf) := hd0.trans hc0
  have hc31 : w3.cell? ⟨w.heap.size, 1, none⟩ = some (.int .i64 sz) := hd1.trans hc1
  have hb4 : Below w.heap.size w w3 := HB.out.drew.trans (hb3.mono HB.out.size)
  clear hd0 hd1 hc0 hc1
  have HS3 := Lib.hid (show w.heap.size < w3.heap.size from Nat.lt_of_lt_of_le HS.out hb3.size)
  have HB4 := Lib.hid hb4; clear hb4 hb3
  go_wp2_with fail
  go_region_held3 (fun w' => w'.cell? ⟨w.heap.size, 0, none⟩ = some (.int .u32 sf) ∧ w'.cell? ⟨w.heap.size, 1, none⟩ = some (.int .i64 sz)) (go_keep) (first | (go_at_call 20; (with_reducible refine (add_any _ _ _).mono ?_); rintro e w4 ⟨rfl, rfl⟩) | (go_at_call 15; (with_reducible refine (in_any sf f _ _).mono ?_); rintro e w4 ⟨rfl, rfl⟩) | (go_at_call 15; (with_reducible refine (K3.out _).mono ?_); rintro e w4 ⟨rfl, rfl⟩) | (go_at_call 17; (with_reducible refine (awake_any _).mono ?_); rintro e w4 ⟨rfl, hb5⟩; have hd0 := hb5.cell (p := ⟨w.heap.size, 0, none⟩) HS3.out; have hd1 := hb5.cell (p := ⟨w.heap.size, 1, none⟩) HS3.out))
  clear hd0 hd1
  go_wp2
  go_ret
  exact ⟨rfl, HB4.out.drew.trans (hb5.mono HB4.out.size)⟩
end Go.Proofs.Ytkigjlddgdaaeaa
