/- The walks of Most, of the two package's loops, and of the example that each law asks. -/
import Derived.Test.YtkigjlddgdaaeaaSeqA
namespace Go.Proofs.Ytkigjlddgdaaeaa
open Go.RowKit
/-- The number behind all others, so far 'best'. -/
def mostI (first : Int) : Int → List Int → Int
  | best, [] => best
  | best, x :: l => mostI first (if df best first < df x first then x else best) l
theorem mostI_snoc (first : Int) (l : List Int) (x : Int) : ∀ best, mostI first best (l ++ [x]) = if df (mostI first best l) first < df x first then x else mostI first best l := by
  induction l with
  | nil => intro best; rfl
  | cons y l ih => intro best; simp only [List.cons_append, mostI]; exact ih _
theorem take_snoc (zs : List Int) (k : Nat) (h : k < zs.length) : zs.take (k + 1) = zs.take k ++ [zs.getD k 0] := by
  rw [List.take_succ_eq_append_getElem h]; simp [List.getD, h]

/-- The numbers of a slice, where it has any. -/
def RowAt (w : World) (ao : Option Addr) (zs : List Int) : Prop := ∀ j, j < zs.length → ∃ a, ao = some a ∧ w.cell? (a.add j) = some (.int .u32 (zs.getD j 0))

set_option maxHeartbeats 400000 in
theorem most_any (first : Int) (ao : Option Addr) (zs : List Int) (cap : Nat) (w : World) (hm : zs.length ≤ 9223372036854775807) (hc : RowAt w ao zs) :
    Calls Try.prog 24 #[.int .u32 first, .slice ao zs.length cap] w fun e w' => e = .returned (.int .u32 (mostI first first zs)) ∧ w = w' := by
  go_enter Try.func24, Try.ntmps24
  go_wp2
  go_loop [5, 11] (fun b i => ∃ k : Nat, k ≤ zs.length ∧ i = .int .i64 k ∧ b = .int .u32 (mostI first first (zs.take k))) (fun _ i => zs.length - (intOf i).toNat)
  case atStart => exact ⟨0, Nat.zero_le _, rfl, rfl⟩
  case round =>
    obtain ⟨k, hk, rfl, rfl⟩ := hrel
    by_cases hlt : k < zs.length
    · obtain ⟨a, rfl, hcell⟩ := hc k hlt
      have HC := Lib.hid hc; clear hc
      have hsn := mostI_snoc first (zs.take k) (zs.getD k 0) first
      rw [← take_snoc zs k hlt] at hsn
      have HS := Lib.hid hsn; clear hsn
      obtain ⟨x, hx⟩ : ∃ x, x = zs.getD k 0 := ⟨_, rfl⟩
      rw [← hx] at hcell HS
      clear hx
      obtain ⟨b, hb⟩ : ∃ b, b = mostI first first (zs.take k) := ⟨_, rfl⟩
      rw [← hb] at HS ⊢
      clear hb
      go_wp2_with (go_at_call 22; (with_reducible refine (diff_any _ _ _).mono ?_); rintro e w' ⟨rfl, rfl⟩)
      all_goals
        go_round
        case rel => exact ⟨k + 1, by omega, by go_num, by rw [HS.out]; first | rw [if_pos (by assumption)] | rw [if_neg (by omega)]⟩
        case measure => simp [intOf]; omega
    · have : k = zs.length := by omega
      subst this
      clear hc
      go_wp2
      go_ret
      exact ⟨ret_int rfl, rfl⟩

theorem df_self (a : Int) : df a a = 0 := by unfold df; omega
set_option maxHeartbeats 400000 in
theorem rmost_any (first : Int) (ao : Option Addr) (zs : List Int) (cap : Nat) (w : World) (hf : 0 ≤ first ∧ first < 4294967296) (hz : ∀ x ∈ zs, 0 ≤ x ∧ x < 4294967296) (hm : zs.length ≤ 9223372036854775807) (hc : RowAt w ao zs) :
    Calls Try.prog 27 #[.int .u32 first, .slice ao zs.length cap] w fun e w' => e = .returned (.int .u32 (mostI first first zs)) ∧ w = w' := by
  have HZ := Lib.hid hz; clear hz
  go_enter Try.func27, Try.ntmps27
  go_wp2
  go_loop [5, 6, 13] (fun b d i => ∃ k : Nat, k ≤ zs.length ∧ i = .int .i64 k ∧ b = .int .u32 (mostI first first (zs.take k)) ∧ d = .int .i64 (df (mostI first first (zs.take k)) first)) (fun _ _ i => zs.length - (intOf i).toNat)
  case atStart => exact ⟨0, Nat.zero_le _, rfl, rfl, by show _ = Value.int .i64 (df first first); rw [df_self]⟩
  case round =>
    obtain ⟨k, hk, rfl, rfl, rfl⟩ := hrel
    by_cases hlt : k < zs.length
    · obtain ⟨a, rfl, hcell⟩ := hc k hlt
      have HC := Lib.hid hc; clear hc
      have hsn := mostI_snoc first (zs.take k) (zs.getD k 0) first
      rw [← take_snoc zs k hlt] at hsn
      have hx0 : 0 ≤ zs.getD k 0 ∧ zs.getD k 0 < 4294967296 := HZ.out _ (by simp [List.getD, hlt])
      have HS := Lib.hid hsn; clear hsn
      obtain ⟨x, hx⟩ : ∃ x, x = zs.getD k 0 := ⟨_, rfl⟩
      rw [← hx] at hcell HS hx0
      clear hx
      obtain ⟨b, hb⟩ : ∃ b, b = mostI first first (zs.take k) := ⟨_, rfl⟩
      rw [← hb] at HS ⊢
      clear hb
      go_wp2_with (go_at_call 23; (with_reducible refine (rdiff_any _ _ _ (by assumption) (by assumption)).mono ?_); rintro e w' ⟨rfl, rfl⟩)
      all_goals
        go_round
        case rel => exact ⟨k + 1, by omega, by go_num, by rw [HS.out]; first | rw [if_pos (by assumption)] | rw [if_neg (by omega)], by rw [HS.out]; first | rw [if_pos (by assumption)] | rw [if_neg (by omega)]⟩
        case measure => simp [intOf]; omega
    · have : k = zs.length := by omega
      subst this
      clear hc
      go_wp2
      go_ret
      exact ⟨ret_int rfl, rfl⟩


theorem awake_row (w : World) : RowAt (w.alloc (.cells #[.int .u32 3, .int .u32 0] 22)) (some ⟨w.heap.size, 0, none⟩) [3, 0] := by
  intro j hj
  match j, hj with
  | 0, _ => exact ⟨_, rfl, by simp [Addr.add]⟩
  | 1, _ => exact ⟨_, rfl, by simp [Addr.add]⟩
set_option maxHeartbeats 400000 in
theorem awake_any (w : World) :
    Calls Try.prog 17 #[] w fun e w' => e = .returned (.bool true) ∧ Below w.heap.size w w' := by
  have c1 := clip_any 10 5 12 9 w (by omega) (by omega)
  rw [show clipI 10 5 12 9 = (2, 3) from by decide] at c1
  have c2 := fun w => diff_any 1 4294967295 w
  rw [show df 1 4294967295 = 2 from by decide] at c2
  have c3 := fun w => less_any 4294967295 0 w
  rw [show decide (df 4294967295 0 < 0) = true from by decide] at c3
  have c4 := fun w => in_any 0 4294967295 2 w
  rw [show inI 0 4294967295 2 = true from by decide] at c4
  have c5 := fun w => most_any 4294967295 (some ⟨w.heap.size, 0, none⟩) [3, 0] 2 _ (by decide) (awake_row w)
  rw [show mostI 4294967295 4294967295 [3, 0] = 3 from by decide] at c5
  have C1 := Lib.hid c1; clear c1
  have C2 := Lib.hid c2; clear c2
  have C3 := Lib.hid c3; clear c3
  have C4 := Lib.hid c4; clear c4
  have C5 := Lib.hid c5; clear c5
  go_enter Try.func17, Try.ntmps17
  go_wp2_with fail
  refine C1.out.mono ?_
  rintro e w1 ⟨rfl, hb⟩
  go_wp2_with fail
  refine (C2.out _).mono ?_
  rintro e w2 ⟨rfl, rfl⟩
  go_wp2_with fail
  refine (C3.out _).mono ?_
  rintro e w2 ⟨rfl, rfl⟩
  go_wp2_with fail
  refine (C4.out _).mono ?_
  rintro e w2 ⟨rfl, rfl⟩
  go_wp2_with fail
  refine (C5.out _).mono ?_
  rintro e w2 ⟨rfl, rfl⟩
  go_wp2_with fail
  go_ret
  exact ⟨rfl, hb.alloc hb.size _⟩
end Go.Proofs.Ytkigjlddgdaaeaa
