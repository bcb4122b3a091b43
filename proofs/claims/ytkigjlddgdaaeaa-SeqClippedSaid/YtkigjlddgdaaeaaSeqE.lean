/- The walks of the laws SeqParts and SeqClipped. -/
import Derived.Test.YtkigjlddgdaaeaaSeqC
import Derived.Deep.RegionHeld3
import Derived.Deep.DrawnRows
namespace Go.Proofs.Ytkigjlddgdaaeaa
open Go.RowKit
attribute [local go_sem ↓] Go.wp_at_zero Go.wp_at_succ

theorem u64w (x : Int) : IntKind.u64.wrap x = x % 18446744073709551616 := by simp [IntKind.wrap, IntKind.signed, IntKind.bits]
theorem part_bd (a m : Int) (h : 0 < m) (hm : m ≤ 9223372036854775807) : 0 ≤ wrap64 ((IntKind.u64.wrap a).tmod m) ∧ wrap64 ((IntKind.u64.wrap a).tmod m) < m := by
  rw [u64w, Int.tmod_eq_emod_of_nonneg (by omega)]
  have h1 := Int.emod_nonneg (a % 18446744073709551616) (Int.ne_of_gt h)
  have h2 := Int.emod_lt_of_pos (a % 18446744073709551616) h
  generalize a % 18446744073709551616 % m = z at *
  unfold wrap64; omega
theorem in_part1 {x f A B : Int} (hB : 0 ≤ B) (h : inI x f A = true) : inI x f (A + B) = true := by
  unfold inI at *; simp at *; omega
theorem in_part2 {x f A B : Int} (hA : 0 ≤ A ∧ A ≤ 2147483648) (h : inI x f A = false) : inI x (addI f A) B = inI x f (A + B) := by
  unfold inI addI at *; simp at h
  rw [Bool.eq_iff_iff]; simp; omega

set_option maxHeartbeats 1000000 in
theorem parts_law (x f a b : Int) (w : World) :
    Calls Try.prog 10 #[.int .u32 x, .int .u32 f, .int .i64 a, .int .i64 b] w (Yes w) := by
  have ha := part_bd a 2147483649 (by decide) (by decide)
  have hb := part_bd b 2147483649 (by decide) (by decide)
  have HA := Lib.hid ha; clear ha
  have HB := Lib.hid hb; clear hb
  go_enter Try.func10, Try.ntmps10
  go_wp2_with fail
  have ha := HA.out; clear HA
  have hb := HB.out; clear HB
  generalize wrap64 ((IntKind.u64.wrap a).tmod 2147483649) = A at *
  generalize wrap64 ((IntKind.u64.wrap b).tmod 2147483649) = B at *
  have hw : wrap64 (A + B) = A + B := by unfold wrap64; omega
  rw [hw]
  clear hw
  obtain ⟨ha1, ha2⟩ := ha
  obtain ⟨hb1, hb2⟩ := hb
  cases h : inI x f A
  · have k1 := fun w => in_any x (addI f A) B w
    rw [in_part2 ⟨ha1, by omega⟩ h] at k1
    have k2 := fun w => in_any x f A w
    rw [h] at k2
    have K1 := Lib.hid k1; clear k1
    have K2 := Lib.hid k2; clear k2 h
    refine (in_any x f (A + B) _).mono ?_; rintro e w2 ⟨rfl, rfl⟩
    go_wp2_with fail
    refine (K2.out _).mono ?_; rintro e w2 ⟨rfl, rfl⟩
    go_wp2_with fail
    refine (add_any f A _).mono ?_; rintro e w2 ⟨rfl, rfl⟩
    go_wp2_with fail
    refine (K1.out _).mono ?_; rintro e w2 ⟨rfl, rfl⟩
    go_wp2_with fail
    refine (awake_any _).mono ?_; rintro e w2 ⟨rfl, hbel⟩
    go_wp2_with fail
    go_ret
    exact ⟨rfl, hbel⟩
  · have k1 := fun w => in_any x f (A + B) w
    rw [in_part1 hb1 h] at k1
    have k2 := fun w => in_any x f A w
    rw [h] at k2
    have K1 := Lib.hid k1; clear k1
    have K2 := Lib.hid k2; clear k2 h
    refine (K1.out _).mono ?_; rintro e w2 ⟨rfl, rfl⟩
    go_wp2_with fail
    refine (K2.out _).mono ?_; rintro e w2 ⟨rfl, rfl⟩
    go_wp2_with fail
    refine (awake_any _).mono ?_; rintro e w2 ⟨rfl, hbel⟩
    go_wp2_with fail
    go_ret
    exact ⟨rfl, hbel⟩

/-- What 'SeqClipped' asks of 'Clip'. -/
theorem clipped_bd (sf sz f s : Int) : (0 ≤ (clipI sf sz f s).1 ∧ (clipI sf sz f s).1 ≤ 2147483648) ∧ 0 ≤ (clipI sf sz f s).2 ∧ (0 < (clipI sf sz f s).2 → (clipI sf sz f s).1 ≤ sz - (clipI sf sz f s).2 ∧ (clipI sf sz f s).2 ≤ s) := by
  have d1 := df_bd f sf
  have d2 := df_bd sf f
  unfold clipI
  split
  · simp
  · split
    · simp
    · unfold mx mn at *
      simp only
      omega
theorem clipped_in {sf sz f s i : Int} (h1 : 1 ≤ sz) (h2 : sz ≤ 1073741824) (h3 : 1 ≤ s) (h4 : s ≤ 1073741824) (h5 : df sf f ≤ 1073741824) (h6 : -1073741824 ≤ df sf f) (hi : 0 ≤ i) (hi' : i < sz) :
    inI (addI sf i) f s = (decide ((clipI sf sz f s).1 ≤ i) && decide (i < (clipI sf sz f s).1 + (clipI sf sz f s).2)) := by
  have e1 : df f sf = - df sf f := by unfold df at *; omega
  have e2 : (sf - f) % 4294967296 = (df sf f) % 4294967296 := by unfold df; omega
  have e3 : (addI sf i - f) % 4294967296 = (df sf f + i) % 4294967296 := by unfold addI df; omega
  unfold inI clipI
  rw [e1, e2, e3]
  generalize df sf f = d at *
  rw [Bool.eq_iff_iff]
  simp only [decide_eq_true_eq, Bool.and_eq_true]
  rw [if_neg (by omega)]
  by_cases q : sz ≤ mx 0 (-d) ∨ s ≤ d
  · rw [if_pos q]
    unfold mx at q
    simp only
    omega
  · rw [if_neg q]
    unfold mx mn at *
    simp only
    omega

set_option maxHeartbeats 4000000 in
theorem clipped_law (sf sz f s a : Int) (w : World) (h0 : -9223372036854775808 ≤ sz) (h1 : sz ≤ 9223372036854775807) (h2 : s ≤ 9223372036854775807) :
    Calls Try.prog 8 #[.agg #[.int .u32 sf, .int .i64 sz], .int .u32 f, .int .i64 s, .int .i64 a] w (Yes w) := by
  have hsz0 : sz < 1 → (clipI sf sz f s).2 = 0 := fun h => by unfold clipI; rw [if_pos (by omega)]
  have k1 := fun w => clip_any sf sz f s w h1 h2
  have hbd := clipped_bd sf sz f s
  have hin := fun i h1 h2 h3 h4 h5 h6 h7 h8 => @clipped_in sf sz f s i h1 h2 h3 h4 h5 h6 h7 h8
  generalize hx : (clipI sf sz f s).1 = x at *
  generalize hy : (clipI sf sz f s).2 = y at *
  clear hx hy
  have K1 := Lib.hid k1; clear k1
  have HIN := Lib.hid hin; clear hin
  obtain ⟨⟨b1, b1'⟩, b2, b3⟩ := hbd
  have B3 := Lib.hid b3; clear b3
  have d1 := df_bd sf f
  have HD1 := Lib.hid d1; clear d1
  have HSZ0 := Lib.hid hsz0; clear hsz0
  by_cases c1 : 0 < y
  · have c2 := (B3.out c1).1
    have c3 := (B3.out c1).2
    clear B3
    have c4 : 1 ≤ sz := by
      rcases Int.lt_or_le 0 sz with h | h
      · omega
      · have := HSZ0.out (by omega); omega
    clear HSZ0
    go_enter Try.func8, Try.ntmps8
    go_wp2_with fail
    refine (K1.out _).mono ?_; rintro e w2 ⟨rfl, hb⟩
    have hc0 : w2.cell? ⟨w.heap.size, 0, none⟩ = some (.int .u32 sf) := by rw [hb.cell (by simp)]; simp
    have hc1 : w2.cell? ⟨w.heap.size, 1, none⟩ = some (.int .i64 sz) := by rw [hb.cell (by simp)]; simp
    have hb2 : Below w.heap.size w w2 := ((Below.refl _ _).alloc (Nat.le_refl _) _).trans (hb.mono (by simp))
    have HB := Lib.hid hb2; clear hb hb2
    go_wp2_with fail
    refine (diff_any _ _ _).mono ?_; rintro e w3 ⟨rfl, rfl⟩
    have d1 := HD1.out
    go_wp2_with fail
    all_goals first
      | (go_at_call 17; refine (awake_any _).mono ?_; rintro e w4 ⟨rfl, hbel⟩; go_wp2_with fail; go_ret; exact ⟨rfl, HB.out.trans (hbel.mono HB.out.size)⟩)
      | skip
    have e1 : sz ≤ 1073741824 := by assumption
    have e2 : s ≤ 1073741824 := by assumption
    have e3 : df sf f ≤ 1073741824 := by assumption
    have e4 : -1073741824 ≤ df sf f := by omega
    have e5 : 1 ≤ sz := by omega
    have e6 : 1 ≤ s := by omega
    obtain ⟨i1, i2⟩ := part_bd a sz (by omega) (by omega)
    generalize wrap64 ((IntKind.u64.wrap a).tmod sz) = i at *
    have hin := HIN.out i e5 e1 e6 e2 e3 e4 i1 i2
    have k2 := fun w => in_any (addI sf i) f s w
    rw [hin] at k2
    clear hin
    have w1 : IntKind.i64.wrap (x + y) = x + y := IntWalk.i64_in _ (by omega)
    refine (add_any sf i _).mono ?_; rintro e w3 ⟨rfl, rfl⟩
    by_cases f1 : x ≤ i
    · by_cases f2 : i < x + y
      · rw [decide_eq_true f1, decide_eq_true f2] at k2
        have K2 := Lib.hid k2; clear k2
        go_wp2_with fail
        refine (K2.out _).mono ?_; rintro e w3 ⟨rfl, rfl⟩
        go_wp2_with fail
        refine (awake_any _).mono ?_; rintro e w4 ⟨rfl, hbel⟩
        go_wp2_with fail
        go_ret
        exact ⟨rfl, HB.out.trans (hbel.mono HB.out.size)⟩
      · rw [decide_eq_true f1, decide_eq_false f2] at k2
        have K2 := Lib.hid k2; clear k2
        have g2 := decide_eq_false f2
        go_wp2_with fail
        refine (K2.out _).mono ?_; rintro e w3 ⟨rfl, rfl⟩
        go_wp2_with fail
        refine (awake_any _).mono ?_; rintro e w4 ⟨rfl, hbel⟩
        go_wp2_with fail
        go_ret
        exact ⟨rfl, HB.out.trans (hbel.mono HB.out.size)⟩
    · rw [decide_eq_false f1] at k2
      have K2 := Lib.hid k2; clear k2
      go_wp2_with fail
      refine (K2.out _).mono ?_; rintro e w3 ⟨rfl, rfl⟩
      go_wp2_with fail
      refine (awake_any _).mono ?_; rintro e w4 ⟨rfl, hbel⟩
      go_wp2_with fail
      go_ret
      exact ⟨rfl, HB.out.trans (hbel.mono HB.out.size)⟩
  · obtain rfl : y = 0 := by omega
    clear B3 HSZ0
    go_enter Try.func8, Try.ntmps8
    go_wp2_with fail
    refine (K1.out _).mono ?_; rintro e w2 ⟨rfl, hb⟩
    have hc0 : w2.cell? ⟨w.heap.size, 0, none⟩ = some (.int .u32 sf) := by rw [hb.cell (by simp)]; simp
    have hc1 : w2.cell? ⟨w.heap.size, 1, none⟩ = some (.int .i64 sz) := by rw [hb.cell (by simp)]; simp
    have hb2 : Below w.heap.size w w2 := ((Below.refl _ _).alloc (Nat.le_refl _) _).trans (hb.mono (by simp))
    have HB := Lib.hid hb2; clear hb hb2
    go_wp2_with fail
    refine (diff_any _ _ _).mono ?_; rintro e w3 ⟨rfl, rfl⟩
    have d1 := HD1.out
    go_wp2_with fail
    all_goals first
      | (go_at_call 17; refine (awake_any _).mono ?_; rintro e w4 ⟨rfl, hbel⟩; go_wp2_with fail; go_ret; exact ⟨rfl, HB.out.trans (hbel.mono HB.out.size)⟩)
      | skip
    have e1 : sz ≤ 1073741824 := by assumption
    have e2 : s ≤ 1073741824 := by assumption
    have e3 : df sf f ≤ 1073741824 := by assumption
    have e4 : -1073741824 ≤ df sf f := by omega
    have e5 : 1 ≤ sz := by omega
    have e6 : 1 ≤ s := by omega
    obtain ⟨i1, i2⟩ := part_bd a sz (by omega) (by omega)
    generalize wrap64 ((IntKind.u64.wrap a).tmod sz) = i at *
    have hin := HIN.out i e5 e1 e6 e2 e3 e4 i1 i2
    have k2 := fun w => in_any (addI sf i) f s w
    rw [hin, Int.add_zero] at k2
    clear hin
    refine (add_any sf i _).mono ?_; rintro e w3 ⟨rfl, rfl⟩
    by_cases f1 : x ≤ i
    · have f2 : ¬ i < x := by omega
      rw [decide_eq_true f1, decide_eq_false f2] at k2
      have K2 := Lib.hid k2; clear k2
      have g2 := decide_eq_false f2
      go_wp2_with fail
      refine (K2.out _).mono ?_; rintro e w3 ⟨rfl, rfl⟩
      go_wp2_with fail
      refine (awake_any _).mono ?_; rintro e w4 ⟨rfl, hbel⟩
      go_wp2_with fail
      go_ret
      exact ⟨rfl, HB.out.trans (hbel.mono HB.out.size)⟩
    · rw [decide_eq_false f1] at k2
      have K2 := Lib.hid k2; clear k2
      go_wp2_with fail
      refine (K2.out _).mono ?_; rintro e w3 ⟨rfl, rfl⟩
      go_wp2_with fail
      refine (awake_any _).mono ?_; rintro e w4 ⟨rfl, hbel⟩
      go_wp2_with fail
      go_ret
      exact ⟨rfl, HB.out.trans (hbel.mono HB.out.size)⟩
end Go.Proofs.Ytkigjlddgdaaeaa
