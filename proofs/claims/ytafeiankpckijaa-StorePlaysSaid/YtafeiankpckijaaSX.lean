/- What 'short' says, exactly; of one call. -/
import Derived.Test.YtafeiankpckijaaPL
namespace Go.Proofs.Ytafeiankpckijaa
open Go.RowKit
set_option linter.unusedSimpArgs false
set_option linter.unusedVariables false
attribute [local go_sem ↓] Go.wp_at_zero Go.wp_at_succ
def shortB (ds : List D) : Bool := decide (ds.length ≤ 300) && decide (sumD ds ≤ 65536)
set_option maxHeartbeats 1000000 in
theorem short_exact (w : World) (lo : Option Addr) (ds : List D) (cap : Nat) (hd : Dos w lo ds) (hl : ds.length ≤ 3000000000000) :
    Calls Try.prog 28 #[.slice lo ds.length cap] w fun e w' => e = .returned (.bool (shortB ds)) ∧ w' = w := by
  have HD := Lib.hid hd; clear hd
  go_enter Try.func28, Try.ntmps28
  go_wp2
  go_loopg [3, 4] ds.length (fun g v3 v4 wl => wl = w ∧ ∃ (l r : List D) (m : Nat), v3 = .int .i64 m ∧ v4 = .int .i64 l.length ∧ r.length = g ∧ Hid (ds = l ++ r ∧ m = sumD l ∧ m ≤ 131073 ∧ l.length ≤ 301))
  case atStart => exact ⟨rfl, [], ds, 0, rfl, rfl, rfl, Lib.hid ⟨rfl, rfl, by omega, by simp⟩⟩
  case round =>
    obtain ⟨rfl, l, r, m, rfl, rfl, hg, hlr⟩ := hrel
    subst hg
    have hlen : ds.length = l.length + r.length := by rw [hlr.out.1]; simp
    have hm := hlr.out.2.2.1
    have hl3 := hlr.out.2.2.2
    have hsum : sumD ds = m + sumD r := by rw [hlr.out.1, sumD_app, hlr.out.2.1]
    have HSUM := Lib.hid hsum; clear hsum
    cases r with
    | nil =>
      simp only [List.length_nil, Nat.add_zero] at hlen
      have t1 : ¬ ((l.length : Int) < (ds.length : Int)) := by omega
      have HL := Lib.hid hlen; clear hlen
      by_cases t2 : ds.length ≤ 300 <;> by_cases t3 : m ≤ 65536
      all_goals
        go_wp2
        go_ret
        have hs := HSUM.out
        simp only [sumD, Nat.add_zero] at hs
        refine ⟨?_, rfl⟩
        unfold shortB
        rw [hs]
        simp [t2, t3]
        try omega
    | cons d r' =>
      simp only [List.length_cons] at hlen
      have t1 : (l.length : Int) < (ds.length : Int) := by omega
      have HL := Lib.hid hlen; clear hlen
      by_cases t2 : l.length ≤ 300
      · by_cases t3 : m ≤ 65536
        · obtain ⟨sb, so, h1, h2, h3, h4, h5⟩ := HD.out l.length d (by rw [hlr.out.1]; simp)
          subst h1
          have t2' : (l.length : Int) ≤ 300 := by omega
          have t3' : (m : Int) ≤ 65536 := by omega
          have b0 : (0 : Int) ≤ l.length := by omega
          by_cases t4 : d.b.length ≤ 65537
          · have e1 : (min (d.b.length : Int) 65537) = (d.b.length : Int) := by omega
            go_wp2
            go_roundg r'.length
            case measure => simp
            case rel => exact ⟨rfl, l ++ [d], r', m + d.b.length, by go_num, by simp, rfl, Lib.hid ⟨by rw [hlr.out.1]; simp, by rw [sumD_app, ← hlr.out.2.1]; simp only [sumD]; omega, by omega, by simp; omega⟩⟩
          · have e1 : (min (d.b.length : Int) 65537) = 65537 := by omega
            go_wp2
            go_roundg r'.length
            case measure => simp
            case rel => exact ⟨rfl, l ++ [d], r', m + 65537, by go_num, by simp, rfl, Lib.hid ⟨by rw [hlr.out.1]; simp, by rw [sumD_app, ← hlr.out.2.1]; simp only [sumD]; omega, by omega, by simp; omega⟩⟩
        · have t2' : (l.length : Int) ≤ 300 := by omega
          have t3' : ¬ (m : Int) ≤ 65536 := by omega
          by_cases t5 : ds.length ≤ 300
          all_goals
            go_wp2
            go_ret
            have hs := HSUM.out
            have hs' : ¬ sumD ds ≤ 65536 := by omega
            refine ⟨?_, rfl⟩
            unfold shortB
            simp [hs', t5]
            try omega
      · have t2' : ¬ (l.length : Int) ≤ 300 := by omega
        have t2'' : ¬ (ds.length : Int) ≤ 300 := by omega
        go_wp2
        go_ret
        have hs' : ¬ ds.length ≤ 300 := by omega
        refine ⟨?_, rfl⟩
        unfold shortB
        simp [hs']
        try omega
theorem shortB_one {d : D} : shortB [d] = decide (d.b.length ≤ 65536) := by
  unfold shortB sumD sumD
  by_cases h : d.b.length ≤ 65536
  · have : min d.b.length 65537 + 0 ≤ 65536 := by omega
    simp [h]; omega
  · have : ¬ min d.b.length 65537 + 0 ≤ 65536 := by omega
    simp [h]; omega
theorem short_one (w : World) (d : D) : Calls Try.prog 28 #[.slice (some ⟨w.heap.size, 0, none⟩) 1 1] (w.alloc (.cells d.cells.toArray 24)) fun e w' => e = .returned (.bool (decide (d.b.length ≤ 65536))) ∧ w' = w.alloc (.cells d.cells.toArray 24) := by
  have := short_exact (w.alloc (.cells d.cells.toArray 24)) (some ⟨w.heap.size, 0, none⟩) [d] 1 (dos_one (box_new w d 24)) (by simp)
  rw [shortB_one] at this
  exact this
end Go.Proofs.Ytafeiankpckijaa
