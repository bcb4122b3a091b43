/- The walks of the small functions of package seq and of its reference: what each computes, in whole numbers. -/
import Derived.Test.YtkigjlddgdaaeaaProg
import Derived.WalkKit
import Derived.WalkSpells
import Derived.WalkLawsBesides
import Derived.Deep.QuietTactic
import Derived.BigQuiet
import Derived.Lib.Hide
namespace Go.Proofs.Ytkigjlddgdaaeaa
open Go.RowKit
theorem ret_int {k : IntKind} {a b : Int} (h : a = b) : Ending.returned (.int k a) = .returned (.int k b) := by rw [h]
theorem ret_bool {a b : Bool} (h : a = b) : Ending.returned (.bool a) = .returned (.bool b) := by rw [h]
theorem ret_two {k l : IntKind} {a b c d : Int} (h : a = c) (h' : b = d) : Ending.returned (.tuple #[.int k a, .int l b]) = .returned (.tuple #[.int k c, .int l d]) := by rw [h, h']
theorem u32b {a : Int} (h : (Lit.int .u32 a).wf = true) : 0 ≤ a ∧ a < 4294967296 := by
  simp [Lit.wf, IntKind.min, IntKind.max, IntKind.signed, IntKind.bits] at h; omega
theorem i64b {a : Int} (h : (Lit.int .i64 a).wf = true) : -9223372036854775808 ≤ a ∧ a ≤ 9223372036854775807 := by
  simp [Lit.wf, IntKind.min, IntKind.max, IntKind.signed, IntKind.bits] at h; omega
/-- How far a number stands behind another one. -/
def df (a b : Int) : Int := (a - b + 2147483648) % 4294967296 - 2147483648
theorem df_bd (a b : Int) : -2147483648 ≤ df a b ∧ df a b ≤ 2147483647 := by unfold df; omega
theorem diff_df (a b : Int) : wrap64 (wrap32 ((a - b) % 4294967296)) = df a b := by unfold wrap64 wrap32 df; omega
theorem tmod_form (n : Int) : Int.tmod n 4294967296 = if 0 ≤ n then n % 4294967296 else - ((-n) % 4294967296) := by
  split
  · rename_i h; exact Int.tmod_eq_emod_of_nonneg h
  · rename_i h
    have := Int.neg_tmod (-n) 4294967296
    rw [Int.neg_neg] at this
    rw [this, Int.tmod_eq_emod_of_nonneg (by omega)]
theorem tmod_bd (n : Int) : -4294967296 < Int.tmod n 4294967296 ∧ Int.tmod n 4294967296 < 4294967296 := by
  rw [tmod_form]; split <;> omega
theorem tmod_neg (n : Int) (h : Int.tmod n 4294967296 < 0) : Int.tmod n 4294967296 + 4294967296 = n % 4294967296 := by
  rw [tmod_form] at h ⊢
  split at h
  · omega
  · rw [if_neg (by assumption)]; omega
theorem tmod_pos (n : Int) (h : ¬ Int.tmod n 4294967296 < 0) : Int.tmod n 4294967296 = n % 4294967296 := by
  rw [tmod_form] at h ⊢
  split at h
  · rw [if_pos (by assumption)]
  · rw [if_neg (by assumption)]; omega
def addI (a n : Int) : Int := (a + n % 4294967296) % 4294967296
def inI (x f s : Int) : Bool := decide ((x - f) % 4294967296 < s)
def mx (a b : Int) : Int := if a < b then b else a
def mn (a b : Int) : Int := if b < a then b else a
/-- 'Clip'. -/
def clipI (sf sz f s : Int) : Int × Int :=
  if sz ≤ 0 ∨ s ≤ 0 ∨ (sf - f) % 4294967296 = 2147483648 then (0, 0)
  else if sz ≤ mx 0 (df f sf) ∨ s ≤ df sf f then (0, 0)
  else (mx 0 (df f sf), mn (sz - mx 0 (df f sf)) (s - mx 0 (df sf f)))

set_option maxHeartbeats 400000 in
theorem diff_any (a b : Int) (w : World) :
    Calls Try.prog 22 #[.int .u32 a, .int .u32 b] w fun e w' => e = .returned (.int .i64 (df a b)) ∧ w = w' := by
  go_enter Try.func22, Try.ntmps22
  go_wp2
  go_ret
  exact ⟨ret_int (diff_df _ _), rfl⟩
theorem diff_quiet (a b : Int) (w : World) :
    Calls Try.prog 22 #[.int .u32 a, .int .u32 b] w fun e w' => e = .returned (.int .i64 (df a b)) ∧ w' = w :=
  (diff_any a b w).mono fun _ _ h => ⟨h.1, h.2.symm⟩

set_option maxHeartbeats 400000 in
theorem less_any (a b : Int) (w : World) :
    Calls Try.prog 13 #[.int .u32 a, .int .u32 b] w fun e w' => e = .returned (.bool (decide (df a b < 0))) ∧ w = w' := by
  go_enter Try.func13, Try.ntmps13
  go_wp2_with (go_at_call 22; (with_reducible refine (diff_any _ _ _).mono ?_); rintro e w' ⟨rfl, rfl⟩)
  go_ret
  exact ⟨rfl, rfl⟩

set_option maxHeartbeats 400000 in
theorem add_any (a n : Int) (w : World) :
    Calls Try.prog 20 #[.int .u32 a, .int .i64 n] w fun e w' => e = .returned (.int .u32 (addI a n)) ∧ w = w' := by
  go_enter Try.func20, Try.ntmps20
  go_wp2
  go_ret
  exact ⟨rfl, rfl⟩

set_option maxHeartbeats 400000 in
theorem in_any (x f s : Int) (w : World) :
    Calls Try.prog 15 #[.int .u32 x, .int .u32 f, .int .i64 s] w fun e w' => e = .returned (.bool (inI x f s)) ∧ w = w' := by
  by_cases h : 0 < s
  · go_enter Try.func15, Try.ntmps15
    go_wp2
    go_ret
    exact ⟨rfl, rfl⟩
  · go_enter Try.func15, Try.ntmps15
    go_wp2
    go_ret
    exact ⟨ret_bool (by unfold inI; rw [eq_comm, decide_eq_false_iff_not]; omega), rfl⟩

set_option maxHeartbeats 1000000 in
theorem clip_any (sf sz f s : Int) (w : World) (h1 : sz ≤ 9223372036854775807) (h2 : s ≤ 9223372036854775807) :
    Calls Try.prog 18 #[.agg #[.int .u32 sf, .int .i64 sz], .int .u32 f, .int .i64 s] w fun e w' => e = .returned (.tuple #[.int .i64 (clipI sf sz f s).1, .int .i64 (clipI sf sz f s).2]) ∧ Below w.heap.size w w' := by
  by_cases c1 : sz ≤ 0
  · go_enter Try.func18, Try.ntmps18
    go_wp2
    go_ret2
    exact ⟨ret_two (by simp [clipI, c1]) (by simp [clipI, c1]), (Below.refl _ _).alloc (Nat.le_refl _) _⟩
  by_cases c2 : s ≤ 0
  · go_enter Try.func18, Try.ntmps18
    go_wp2
    go_ret2
    exact ⟨ret_two (by simp [clipI, c2]) (by simp [clipI, c2]), (Below.refl _ _).alloc (Nat.le_refl _) _⟩
  by_cases c3 : (sf - f) % 4294967296 = 2147483648
  · have c3' : ((sf - f) % 4294967296 == 2147483648) = true := by simp [c3]
    have C3 := Lib.hid c3; clear c3
    go_enter Try.func18, Try.ntmps18
    go_wp2
    go_ret2
    exact ⟨ret_two (by simp [clipI, C3.out]) (by simp [clipI, C3.out]), (Below.refl _ _).alloc (Nat.le_refl _) _⟩
  have c3' : ((sf - f) % 4294967296 == 2147483648) = false := by simp [c3]
  have d1 := df_bd f sf
  have d2 := df_bd sf f
  by_cases c4 : sz ≤ mx 0 (df f sf)
  · have e : clipI sf sz f s = (0, 0) := by unfold clipI; simp [c4]
    rw [e]
    unfold mx at c4
    go_enter Try.func18, Try.ntmps18
    go_wp2_with (go_at_call 22; (with_reducible refine (diff_any _ _ _).mono ?_); rintro e w' ⟨rfl, rfl⟩)
    all_goals
      go_ret2
      exact ⟨rfl, (Below.refl _ _).alloc (Nat.le_refl _) _⟩
  by_cases c5 : s ≤ df sf f
  · have e : clipI sf sz f s = (0, 0) := by unfold clipI; simp [c5]
    rw [e]
    unfold mx at c4
    go_enter Try.func18, Try.ntmps18
    go_wp2_with (go_at_call 22; (with_reducible refine (diff_any _ _ _).mono ?_); rintro e w' ⟨rfl, rfl⟩)
    all_goals
      go_ret2
      exact ⟨rfl, (Below.refl _ _).alloc (Nat.le_refl _) _⟩
  have e : clipI sf sz f s = (mx 0 (df f sf), mn (sz - mx 0 (df f sf)) (s - mx 0 (df sf f))) := by
    unfold clipI; rw [if_neg (by simp; omega), if_neg (by simp; omega)]
  rw [e]
  unfold mx at c4
  go_enter Try.func18, Try.ntmps18
  go_wp2_with (go_at_call 22; (with_reducible refine (diff_any _ _ _).mono ?_); rintro e w' ⟨rfl, rfl⟩)
  all_goals go_quiet ((go_at_call 22; exact Calls.quiet_of_same (diff_quiet _ _ _)))
  all_goals go_wp2
  all_goals go_ret2
  all_goals exact ⟨ret_two (by unfold mx; omega) (by unfold mn mx; omega), below_drewN ((Below.refl _ _).alloc (Nat.le_refl _) _) _⟩

set_option maxHeartbeats 400000 in
theorem rmod_any (n : Int) (w : World) :
    Calls Try.prog 29 #[.int .i64 n] w fun e w' => e = .returned (.int .i64 (n % 4294967296)) ∧ w = w' := by
  have hb := tmod_bd n
  by_cases h : Int.tmod n 4294967296 < 0
  · go_enter Try.func29, Try.ntmps29
    go_wp2
    go_ret
    exact ⟨ret_int (tmod_neg n h), rfl⟩
  · go_enter Try.func29, Try.ntmps29
    go_wp2
    go_ret
    exact ⟨ret_int (tmod_pos n (Int.not_lt.2 h)), rfl⟩

set_option maxHeartbeats 400000 in
theorem rdiff_any (a b : Int) (w : World) (ha : 0 ≤ a ∧ a < 4294967296) (hb : 0 ≤ b ∧ b < 4294967296) :
    Calls Try.prog 23 #[.int .u32 a, .int .u32 b] w fun e w' => e = .returned (.int .i64 (df a b)) ∧ w = w' := by
  by_cases h : 2147483648 ≤ (a - b) % 4294967296
  · go_enter Try.func23, Try.ntmps23
    go_wp2_with (go_at_call 29; (with_reducible refine (rmod_any _ _).mono ?_); rintro e w' ⟨rfl, rfl⟩)
    go_ret
    exact ⟨ret_int (by unfold df; omega), rfl⟩
  · go_enter Try.func23, Try.ntmps23
    go_wp2_with (go_at_call 29; (with_reducible refine (rmod_any _ _).mono ?_); rintro e w' ⟨rfl, rfl⟩)
    go_ret
    exact ⟨ret_int (by unfold df; omega), rfl⟩

set_option maxHeartbeats 400000 in
theorem rless_any (a b : Int) (w : World) (ha : 0 ≤ a ∧ a < 4294967296) (hb : 0 ≤ b ∧ b < 4294967296) :
    Calls Try.prog 14 #[.int .u32 a, .int .u32 b] w fun e w' => e = .returned (.bool (decide (df a b < 0))) ∧ w = w' := by
  go_enter Try.func14, Try.ntmps14
  go_wp2_with (go_at_call 23; (with_reducible refine (rdiff_any _ _ _ ha hb).mono ?_); rintro e w' ⟨rfl, rfl⟩)
  go_ret
  exact ⟨rfl, rfl⟩

set_option maxHeartbeats 400000 in
theorem radd_any (a n : Int) (w : World) (ha : 0 ≤ a ∧ a < 4294967296) :
    Calls Try.prog 21 #[.int .u32 a, .int .i64 n] w fun e w' => e = .returned (.int .u32 (addI a n)) ∧ w = w' := by
  go_enter Try.func21, Try.ntmps21
  go_wp2_with (go_at_call 29; (with_reducible refine (rmod_any _ _).mono ?_); rintro e w' ⟨rfl, rfl⟩)
  go_ret
  exact ⟨ret_int (by unfold addI; omega), rfl⟩

set_option maxHeartbeats 400000 in
theorem rin_any (x f s : Int) (w : World) (hx : 0 ≤ x ∧ x < 4294967296) (hf : 0 ≤ f ∧ f < 4294967296) :
    Calls Try.prog 16 #[.int .u32 x, .int .u32 f, .int .i64 s] w fun e w' => e = .returned (.bool (inI x f s)) ∧ w = w' := by
  go_enter Try.func16, Try.ntmps16
  go_wp2_with (go_at_call 29; (with_reducible refine (rmod_any _ _).mono ?_); rintro e w' ⟨rfl, rfl⟩)
  go_ret
  exact ⟨rfl, rfl⟩

theorem df_half (a b : Int) : (df a b == -2147483648) = ((a - b) % 4294967296 == 2147483648) := by
  rw [Bool.eq_iff_iff]; simp only [beq_iff_eq]; unfold df; omega
set_option maxHeartbeats 1000000 in
theorem rclip_any (sf sz f s : Int) (w : World) (hsf : 0 ≤ sf ∧ sf < 4294967296) (hf : 0 ≤ f ∧ f < 4294967296) (h1 : sz ≤ 9223372036854775807) (h2 : s ≤ 9223372036854775807) :
    Calls Try.prog 19 #[.int .u32 sf, .int .i64 sz, .int .u32 f, .int .i64 s] w fun e w' => e = .returned (.tuple #[.int .i64 (clipI sf sz f s).1, .int .i64 (clipI sf sz f s).2]) ∧ w = w' := by
  by_cases c1 : sz < 1
  · go_enter Try.func19, Try.ntmps19
    go_wp2
    go_ret2
    exact ⟨ret_two (by unfold clipI; rw [if_pos (Or.inl (by omega))]) (by unfold clipI; rw [if_pos (Or.inl (by omega))]), rfl⟩
  by_cases c2 : s < 1
  · go_enter Try.func19, Try.ntmps19
    go_wp2
    go_ret2
    exact ⟨ret_two (by unfold clipI; rw [if_pos (Or.inr (Or.inl (by omega)))]) (by unfold clipI; rw [if_pos (Or.inr (Or.inl (by omega)))]), rfl⟩
  by_cases c3 : (sf - f) % 4294967296 = 2147483648
  · have c3' : (df sf f == -2147483648) = true := by rw [df_half]; simp [c3]
    have C3 := Lib.hid c3; clear c3
    go_enter Try.func19, Try.ntmps19
    go_wp2_with (go_at_call 23; (with_reducible refine (rdiff_any _ _ _ (by assumption) (by assumption)).mono ?_); rintro e w' ⟨rfl, rfl⟩)
    go_ret2
    exact ⟨ret_two (by simp [clipI, C3.out]) (by simp [clipI, C3.out]), rfl⟩
  have c3' : (df sf f == -2147483648) = false := by rw [df_half]; simp [c3]
  have d1 := df_bd f sf
  have d2 := df_bd sf f
  have dd : df sf f = - df f sf := by unfold df; omega
  by_cases c4 : sz ≤ mx 0 (df f sf) ∨ s ≤ df sf f
  · have e : clipI sf sz f s = (0, 0) := by unfold clipI; rw [if_neg (by simp; omega), if_pos c4]
    rw [e]
    unfold mx at c4
    have DD := Lib.hid dd; clear dd
    by_cases p1 : 0 < df f sf
    · have p2 : ¬ 0 < df sf f := by have := DD.out; omega
      rcases c4 with c4 | c4
      · go_enter Try.func19, Try.ntmps19
        go_wp2_with (go_at_call 23; (with_reducible refine (rdiff_any _ _ _ (by assumption) (by assumption)).mono ?_); rintro e w' ⟨rfl, rfl⟩)
        all_goals go_ret2
        all_goals exact ⟨rfl, rfl⟩
      · have := DD.out; omega
    · have p2 : 0 ≤ df sf f := by have := DD.out; omega
      have c5 : s ≤ df sf f := by rw [if_neg p1] at c4; omega
      clear c4
      go_enter Try.func19, Try.ntmps19
      go_wp2_with (go_at_call 23; (with_reducible refine (rdiff_any _ _ _ (by assumption) (by assumption)).mono ?_); rintro e w' ⟨rfl, rfl⟩)
      all_goals go_ret2
      all_goals exact ⟨rfl, rfl⟩
  have e : clipI sf sz f s = (mx 0 (df f sf), mn (sz - mx 0 (df f sf)) (s - mx 0 (df sf f))) := by
    unfold clipI; rw [if_neg (by simp; omega), if_neg c4]
  rw [e]
  have C4 := Lib.hid c4; clear c4
  have DD := Lib.hid dd; clear dd
  have q1 : df f sf < sz := by have := C4.out; unfold mx at this; omega
  have q2 : df sf f < s := by have := C4.out; unfold mx at this; omega
  by_cases p1 : 0 < df f sf
  · have p2 : df sf f < 0 := by have := DD.out; omega
    go_enter Try.func19, Try.ntmps19
    go_wp2_with (go_at_call 23; (with_reducible refine (rdiff_any _ _ _ (by assumption) (by assumption)).mono ?_); rintro e w' ⟨rfl, rfl⟩)
    all_goals go_ret2
    all_goals exact ⟨ret_two (by unfold mx; omega) (by unfold mn mx; omega), rfl⟩
  · go_enter Try.func19, Try.ntmps19
    go_wp2_with (go_at_call 23; (with_reducible refine (rdiff_any _ _ _ (by assumption) (by assumption)).mono ?_); rintro e w' ⟨rfl, rfl⟩)
    all_goals go_ret2
    all_goals exact ⟨ret_two (by unfold mx; omega) (by unfold mn mx; omega), rfl⟩
end Go.Proofs.Ytkigjlddgdaaeaa
