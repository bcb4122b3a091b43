/- The walks of the laws of flumelaw03 that take no slice: each answers true and leaves what was there as it was. -/
import Derived.Test.YtkigjlddgdaaeaaSeqB
namespace Go.Proofs.Ytkigjlddgdaaeaa
open Go.RowKit
abbrev Yes (w : World) (e : Ending) (w' : World) : Prop := e = .returned (.bool true) ∧ Below w.heap.size w w'

set_option maxHeartbeats 400000 in
theorem aheads_law (a b s : Int) (w : World) (ha : 0 ≤ a ∧ a < 4294967296) (hb : 0 ≤ b ∧ b < 4294967296) :
    Calls Try.prog 3 #[.int .u32 a, .int .u32 b, .int .i64 s] w (Yes w) := by
  go_enter Try.func3, Try.ntmps3
  go_wp2_with fail
  refine (less_any a b _).mono ?_; rintro e w2 ⟨rfl, rfl⟩
  go_wp2_with fail
  refine (rless_any a b _ ha hb).mono ?_; rintro e w2 ⟨rfl, rfl⟩
  go_wp2_with fail
  refine (in_any a b s _).mono ?_; rintro e w2 ⟨rfl, rfl⟩
  go_wp2_with fail
  refine (rin_any a b s _ ha hb).mono ?_; rintro e w2 ⟨rfl, rfl⟩
  go_wp2_with fail
  refine (awake_any _).mono ?_; rintro e w2 ⟨rfl, hbel⟩
  go_wp2_with fail
  go_ret
  exact ⟨rfl, hbel⟩

set_option maxHeartbeats 400000 in
theorem adds_law (a b s : Int) (w : World) (ha : 0 ≤ a ∧ a < 4294967296) (hb : 0 ≤ b ∧ b < 4294967296) :
    Calls Try.prog 5 #[.int .u32 a, .int .u32 b, .int .i64 s] w (Yes w) := by
  go_enter Try.func5, Try.ntmps5
  go_wp2_with fail
  refine (add_any a s _).mono ?_; rintro e w2 ⟨rfl, rfl⟩
  go_wp2_with fail
  refine (radd_any a s _ ha).mono ?_; rintro e w2 ⟨rfl, rfl⟩
  go_wp2_with fail
  refine (diff_any a b _).mono ?_; rintro e w2 ⟨rfl, rfl⟩
  go_wp2_with fail
  refine (rdiff_any a b _ ha hb).mono ?_; rintro e w2 ⟨rfl, rfl⟩
  go_wp2_with fail
  refine (awake_any _).mono ?_; rintro e w2 ⟨rfl, hbel⟩
  go_wp2_with fail
  go_ret
  exact ⟨rfl, hbel⟩

set_option maxHeartbeats 400000 in
theorem clips_law (sf sz f s : Int) (w : World) (hsf : 0 ≤ sf ∧ sf < 4294967296) (hf : 0 ≤ f ∧ f < 4294967296) (h1 : sz ≤ 9223372036854775807) (h2 : s ≤ 9223372036854775807) :
    Calls Try.prog 4 #[.agg #[.int .u32 sf, .int .i64 sz], .int .u32 f, .int .i64 s] w (Yes w) := by
  obtain ⟨p, hp⟩ : ∃ p, p = clipI sf sz f s := ⟨_, rfl⟩
  have k1 := fun w => clip_any sf sz f s w h1 h2
  have k2 := fun w => rclip_any sf sz f s w hsf hf h1 h2
  rw [← hp] at k1 k2
  obtain ⟨x, y⟩ := p
  have K1 := Lib.hid k1; clear k1
  have K2 := Lib.hid k2; clear k2 hp
  go_enter Try.func4, Try.ntmps4
  go_wp2_with fail
  refine (K1.out _).mono ?_; rintro e w2 ⟨rfl, hb⟩
  have hc0 : w2.cell? ⟨w.heap.size, 0, none⟩ = some (.int .u32 sf) := by rw [hb.cell (by simp)]; simp
  have hc1 : w2.cell? ⟨w.heap.size, 1, none⟩ = some (.int .i64 sz) := by rw [hb.cell (by simp)]; simp
  have hb2 : Below w.heap.size w w2 := ((Below.refl _ _).alloc (Nat.le_refl _) _).trans (hb.mono (by simp))
  have HB := Lib.hid hb2; clear hb hb2
  go_wp2_with fail
  refine (K2.out _).mono ?_; rintro e w3 ⟨rfl, rfl⟩
  go_wp2_with fail
  refine (awake_any _).mono ?_; rintro e w3 ⟨rfl, hbel⟩
  go_wp2_with fail
  go_ret
  exact ⟨rfl, HB.out.trans (hbel.mono HB.out.size)⟩

theorem add_df {a b : Int} (ha : 0 ≤ a ∧ a < 4294967296) : addI b (df a b) = a := by unfold addI df; omega
theorem df_add {a n : Int} (hn : -2147483648 ≤ n ∧ n < 2147483648) : df (addI a n) a = n := by unfold addI df; omega
set_option maxHeartbeats 400000 in
theorem round_law (a b n : Int) (w : World) (ha : 0 ≤ a ∧ a < 4294967296) :
    Calls Try.prog 6 #[.int .u32 a, .int .u32 b, .int .i64 n] w (Yes w) := by
  have k1 := fun w => add_any b (df a b) w
  rw [add_df ha] at k1
  have K1 := Lib.hid k1; clear k1
  by_cases h1 : n < -2147483648
  · go_enter Try.func6, Try.ntmps6
    go_wp2_with fail
    refine (diff_any a b _).mono ?_; rintro e w2 ⟨rfl, rfl⟩
    go_wp2_with fail
    refine (K1.out _).mono ?_; rintro e w2 ⟨rfl, rfl⟩
    go_wp2_with fail
    refine (awake_any _).mono ?_; rintro e w2 ⟨rfl, hbel⟩
    go_wp2_with fail
    go_ret
    exact ⟨rfl, hbel⟩
  by_cases h2 : 2147483648 ≤ n
  · go_enter Try.func6, Try.ntmps6
    go_wp2_with fail
    refine (diff_any a b _).mono ?_; rintro e w2 ⟨rfl, rfl⟩
    go_wp2_with fail
    refine (K1.out _).mono ?_; rintro e w2 ⟨rfl, rfl⟩
    go_wp2_with fail
    refine (awake_any _).mono ?_; rintro e w2 ⟨rfl, hbel⟩
    go_wp2_with fail
    go_ret
    exact ⟨rfl, hbel⟩
  have k2 := fun w => diff_any (addI a n) a w
  rw [df_add (by omega)] at k2
  have K2 := Lib.hid k2; clear k2
  go_enter Try.func6, Try.ntmps6
  go_wp2_with fail
  refine (diff_any a b _).mono ?_; rintro e w2 ⟨rfl, rfl⟩
  go_wp2_with fail
  refine (K1.out _).mono ?_; rintro e w2 ⟨rfl, rfl⟩
  go_wp2_with fail
  refine (add_any a n _).mono ?_; rintro e w2 ⟨rfl, rfl⟩
  go_wp2_with fail
  refine (K2.out _).mono ?_; rintro e w2 ⟨rfl, rfl⟩
  go_wp2_with fail
  refine (awake_any _).mono ?_; rintro e w2 ⟨rfl, hbel⟩
  go_wp2_with fail
  go_ret
  exact ⟨rfl, hbel⟩

theorem df_moved (a b n : Int) : df (addI a n) (addI b n) = df a b := by unfold addI df; omega
theorem one_eq {a b : Int} (ha : 0 ≤ a ∧ a < 4294967296) (hb : 0 ≤ b ∧ b < 4294967296) :
    (decide (df a b < 0) != decide (df b a < 0)) = (a != b && !((a - b) % 4294967296 == 2147483648)) := by
  by_cases h1 : df a b < 0 <;> by_cases h2 : df b a < 0 <;> by_cases h3 : a = b <;> by_cases h4 : (a - b) % 4294967296 = 2147483648 <;> simp [h1, h2, h3, h4] <;> (unfold df at h1 h2; omega)
set_option maxHeartbeats 400000 in
theorem one_law (a b n : Int) (w : World) (ha : 0 ≤ a ∧ a < 4294967296) (hb : 0 ≤ b ∧ b < 4294967296) :
    Calls Try.prog 7 #[.int .u32 a, .int .u32 b, .int .i64 n] w (Yes w) := by
  have k1 := fun w => diff_any (addI a n) (addI b n) w
  rw [df_moved] at k1
  have K1 := Lib.hid k1; clear k1
  have he := one_eq ha hb
  obtain ⟨x, hx⟩ : ∃ x, x = decide (df a b < 0) := ⟨_, rfl⟩
  obtain ⟨y, hy⟩ : ∃ y, y = decide (df b a < 0) := ⟨_, rfl⟩
  have k2 := fun w => less_any a b w
  have k3 := fun w => less_any b a w
  rw [← hx] at k2 he
  rw [← hy] at k3 he
  have K2 := Lib.hid k2; clear k2 hx
  have K3 := Lib.hid k3; clear k3 hy
  by_cases c1 : a = b
  · subst c1
    obtain rfl : x = y := by simpa using he
    clear he
    go_enter Try.func7, Try.ntmps7
    go_wp2_with fail
    refine (K2.out _).mono ?_; rintro e w2 ⟨rfl, rfl⟩
    go_wp2_with fail
    refine (K3.out _).mono ?_; rintro e w2 ⟨rfl, rfl⟩
    go_wp2_with fail
    refine (add_any a n _).mono ?_; rintro e w2 ⟨rfl, rfl⟩
    go_wp2_with fail
    refine (add_any a n _).mono ?_; rintro e w2 ⟨rfl, rfl⟩
    go_wp2_with fail
    refine (K1.out _).mono ?_; rintro e w2 ⟨rfl, rfl⟩
    go_wp2_with fail
    refine (diff_any a a _).mono ?_; rintro e w2 ⟨rfl, rfl⟩
    go_wp2_with fail
    refine (awake_any _).mono ?_; rintro e w2 ⟨rfl, hbel⟩
    go_wp2_with fail
    go_ret
    exact ⟨rfl, hbel⟩
  · have c2 : (a != b) = true := by simpa using c1
    obtain ⟨z, hz⟩ : ∃ z, z = ((a - b) % 4294967296 == 2147483648) := ⟨_, rfl⟩
    have c3 : (x == y) = z := by have : (x != y) = !z := by { rw [he, c2, hz]; rfl }
                                 revert this; cases x <;> cases y <;> cases z <;> simp
    have c4 := hz.symm
    clear he c1 hz
    go_enter Try.func7, Try.ntmps7
    go_wp2_with fail
    refine (K2.out _).mono ?_; rintro e w2 ⟨rfl, rfl⟩
    go_wp2_with fail
    refine (K3.out _).mono ?_; rintro e w2 ⟨rfl, rfl⟩
    go_wp2_with fail
    refine (add_any a n _).mono ?_; rintro e w2 ⟨rfl, rfl⟩
    go_wp2_with fail
    refine (add_any b n _).mono ?_; rintro e w2 ⟨rfl, rfl⟩
    go_wp2_with fail
    refine (K1.out _).mono ?_; rintro e w2 ⟨rfl, rfl⟩
    go_wp2_with fail
    refine (diff_any a b _).mono ?_; rintro e w2 ⟨rfl, rfl⟩
    go_wp2_with fail
    refine (awake_any _).mono ?_; rintro e w2 ⟨rfl, hbel⟩
    go_wp2_with fail
    go_ret
    exact ⟨rfl, hbel⟩
end Go.Proofs.Ytkigjlddgdaaeaa
