/- bytes.Equal over the same bytes, wherever they lie: true. -/
import Derived.Test.YtafeiankpckijaaMM
import Derived.Laws.BytesArg
namespace Go.Proofs.Ytafeiankpckijaa
open Go.RowKit
set_option linter.unusedSimpArgs false
set_option linter.unusedVariables false
attribute [local go_sem ↓] Go.wp_at_zero Go.wp_at_succ
theorem under9 : Try.prog.underlying 9 = some .string := by kernel_rfl
theorem conv_zero (w : World) (p : Option Addr) (c : Nat) : (convert 22 9 (.slice p 0 c)).run Try.prog w = .ok (.string ByteArray.empty) w := by
  rw [run_convert_bytes_string w 22 9 5 _ 0 c under22 under5 under9]
  cases p <;> simp [Conv.bytesToString, loadCells]
  all_goals rfl
theorem conv_some (w : World) (ad : Addr) (xs : List Int) (c : Nat) (h : ∀ j, j < xs.length → w.cell? (ad.add j) = some (.int .u8 (xs.getD j 0))) : (convert 22 9 (.slice (some ad) xs.length c)).run Try.prog w = .ok (.string (strOfNums xs)) w := by
  have hl : (loadCells ad xs.length).run Try.prog w = .ok (xs.map (Value.int .u8)).toArray w := by
    have := run_loadCells_list (P := Try.prog) w ad (xs.map (Value.int .u8)) (fun j v hj => by
      have hjl : j < xs.length := by
        rcases Nat.lt_or_ge j xs.length with h | h
        · exact h
        · simp [List.getElem?_eq_none (show (xs.map (Value.int .u8)).length ≤ j by simpa using h)] at hj
      rw [h j hjl]
      simp [List.getElem?_eq_getElem hjl] at hj
      subst hj
      simp [List.getD, List.getElem?_eq_getElem hjl])
    simpa using this
  rw [run_convert_bytes_string w 22 9 5 _ xs.length c under22 under5 under9, run_bytesToString w _ xs.length c xs hl, foldl_push_bytes]
  simp [strOfNums, ByteArray.empty, ByteArray.emptyWithCapacity]
  rfl
theorem conv_data {w : World} {F : Nat → Prop} {ao : Option Addr} {xs : List Int} (h : DataAt w F ao xs) (c : Nat) : (convert 22 9 (.slice ao xs.length c)).run Try.prog w = .ok (.string (strOfNums xs)) w := by
  rcases Nat.eq_zero_or_pos xs.length with hn | hn
  · obtain rfl : xs = [] := List.eq_nil_of_length_eq_zero hn
    exact conv_zero w ao c
  · obtain ⟨ad, rfl, -⟩ := h 0 hn
    refine conv_some w ad xs c fun j hj => ?_
    obtain ⟨ad', e1, e2, -⟩ := h j hj
    obtain rfl : ad = ad' := by simpa using e1
    exact e2
theorem bytes_equal {w : World} {F G : Nat → Prop} {ao bo : Option Addr} {xs : List Int} (h1 : DataAt w F ao xs) (h2 : DataAt w G bo xs) (c d : Nat) :
    Calls Try.prog 31 #[.slice ao xs.length c, .slice bo xs.length d] w fun e w' => e = .returned (.bool true) ∧ w' = w := by
  have k1 := conv_data h1 c
  have k2 := conv_data h2 d
  clear h1 h2
  generalize xs.length = n at k1 k2 ⊢
  generalize strOfNums xs = s at k1 k2
  go_enter Try.func31, Try.ntmps31
  go_wp2
  go_ret
  simp
end Go.Proofs.Ytafeiankpckijaa
