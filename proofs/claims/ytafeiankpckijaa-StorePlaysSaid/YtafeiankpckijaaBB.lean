/- slices.Equal at rows of digests. -/
import Derived.Test.YtafeiankpckijaaAA
namespace Go.Proofs.Ytafeiankpckijaa
open Go.RowKit
set_option linter.unusedSimpArgs false
set_option linter.unusedVariables false
attribute [local go_sem ↓] Go.wp_at_zero Go.wp_at_succ
/-- A row of digests in memory. -/
def Keys (w : World) (v : Value) (ks : List Nat) : Prop := ∃ ao cap, v = .slice ao ks.length cap ∧ ∀ i k, ks[i]? = some k → k < 65536 ∧ ∃ g o, ao = some ⟨g, o, none⟩ ∧ w.rangeAt g (o + i * 32) (sumC k)
theorem Keys.frame {w w' : World} {v : Value} {ks : List Nat} (h : Keys w v ks) (ho : Only (fun _ => False) w w') : Keys w' v ks := by
  obtain ⟨ao, cap, rfl, h⟩ := h
  refine ⟨ao, cap, rfl, fun i k hi => ?_⟩
  obtain ⟨h1, g, o, h2, h3⟩ := h i k hi
  exact ⟨h1, g, o, h2, fun j v hj => ho.cell (h3 j v hj) (fun h => h)⟩
theorem keys_of_owns {w : World} {B : Nat} {v : Value} {ks : List Nat} (h : w.ownsRow B 38 32 v ks.length (ks.flatMap sumC)) (hk : ∀ k ∈ ks, k < 65536) : Keys w v ks := by
  obtain ⟨h1, h2 | ⟨g, cap, cur, rfl, hB, hg, s1, s2, s3, s4⟩⟩ := h
  · obtain ⟨rfl, h2⟩ := h2
    have : ks = [] := List.length_eq_zero_iff.1 h2
    subst this
    exact ⟨none, 0, rfl, fun i k hi => by simp at hi⟩
  · refine ⟨_, cap, rfl, fun i k hi => ⟨hk k (List.mem_of_getElem? hi), g, 0, rfl, fun j v hj => ?_⟩⟩
    have hil := (List.getElem?_eq_some_iff.1 hi).1
    have hjl : j < 32 := by rw [← sumC_len k]; exact (List.getElem?_eq_some_iff.1 hj).1
    have e := flat_get 32 sumC ks i j (fun x _ => sumC_len x) hjl
    have hin : (i + 1) * 32 ≤ ks.length * 32 := Nat.mul_le_mul_right _ (by omega)
    rw [← s4, List.getElem?_take_of_lt (by omega), hi] at e
    rw [cell_of_row _ _ _ _ _ _ hg, show cur[0 + i * 32 + j]? = cur.toList[i * 32 + j]? by simp, e]
    exact hj
def EqSaid (w : World) (r : Bool) (e : Ending) (w' : World) : Prop := e = .returned (.bool r) ∧ Only (fun _ => False) w w'
set_option maxHeartbeats 1000000 in
theorem equal_any (w : World) (v u : Value) (ks js : List Nat) (hv : Keys w v ks) (hu : Keys w u js) (hl : ks.length ≤ 1000000) (hl' : js.length ≤ 1000000) :
    Calls Try.prog 38 #[v, u] w (EqSaid w (decide (ks = js))) := by
  obtain ⟨ao, cap, rfl, hv⟩ := hv
  obtain ⟨bo, cap', rfl, hu⟩ := hu
  have HV := Lib.hid hv; clear hv
  have HU := Lib.hid hu; clear hu
  by_cases hlen : ks.length = js.length
  · have hlen' : (ks.length : Int) = (js.length : Int) := by omega
    go_enter Try.func38, Try.ntmps38
    go_wp2_with fail
    go_loopg [13] ks.length (fun g v wl => ∃ i : Nat, v = .int .i64 i ∧ Hid (i + g = ks.length ∧ Only (fun _ => False) w wl ∧ ks.take i = js.take i))
    case atStart => exact ⟨0, rfl, Lib.hid ⟨by omega, Only.refl _ _, rfl⟩⟩
    case round =>
      obtain ⟨i, rfl, hh⟩ := hrel
      by_cases hi : i < ks.length
      · have hi' : (i : Int) < (ks.length : Int) := by omega
        have hi2 : (i : Int) < (js.length : Int) := by omega
        have b0 : (0 : Int) ≤ i := by omega
        obtain ⟨hk1, g, o, rfl, hr1⟩ := HV.out i ks[i] (List.getElem?_eq_getElem hi)
        obtain ⟨hk2, g', o', rfl, hr2⟩ := HU.out i (js[i]'(by omega)) (List.getElem?_eq_getElem (by omega))
        generalize hke : ks[i] = k at *
        generalize hje : js[i]'(by omega) = j at *
        have HKE := Lib.hid (And.intro hke hje); clear hke hje
        have hld1 : ∀ w', (∃ n, w' = wr.drewN n) → (Instr.loadAt 38 (.pointer (some ⟨g, o + i * 32, none⟩))).run Try.prog w' = .ok (.agg (sumC k).toArray) w' := by
          rintro _ ⟨n, rfl⟩
          exact run_loadAt_mid _ _ _ 38 _ _ (fun q x hq => hh.out.2.1.cell (hr1 q x hq) (fun h => h)) under38 rfl (infoSum k)
        have hld2 : ∀ w', (∃ n, w' = wr.drewN n) → (Instr.loadAt 38 (.pointer (some ⟨g', o' + i * 32, none⟩))).run Try.prog w' = .ok (.agg (sumC j).toArray) w' := by
          rintro _ ⟨n, rfl⟩
          exact run_loadAt_mid _ _ _ 38 _ _ (fun q x hq => hh.out.2.1.cell (hr2 q x hq) (fun h => h)) under38 rfl (infoSum j)
        have HL1 := Lib.hid hld1; clear hld1
        have HL2 := Lib.hid hld2; clear hld2 hr1 hr2
        have heq := fun w => equalIn_sums w hk1 hk2
        go_wp2_with fail
        refine wp_region_quiet_lit (by kernel_rfl) (by kernel_rfl) ?_
        repeat (first | (go_big_quiet_want; refine quiet_load 38 _ rfl HL1.out ?_; go_frame; go_big_quiet_on) | (go_big_quiet_want; refine quiet_load 38 _ rfl HL2.out ?_; go_frame; go_big_quiet_on) | go_big_quiet_step (fail))
        refine wpQuiet_nil ?_
        intro _ hw'
        obtain ⟨nq, rfl⟩ := hw'
        have hoq := hh.out.2.1.drewN nq
        generalize wr.drewN nq = wq at *
        have HOQ := Lib.hid hoq
        clear hoq heq HL1 HL2
        by_cases hkj : k = j
        · have HKJ := Lib.hid hkj
          have hbb : (!decide (k = j)) = false := by simp [hkj]
          rw [hbb]
          clear hbb hkj
          go_wp2
          go_roundg (ks.length - (i + 1))
          case measure => have := hh.out.1; omega
          case rel => exact ⟨i + 1, by go_num, Lib.hid ⟨by omega, HOQ.out, by
            rw [List.take_succ_eq_append_getElem hi, List.take_succ_eq_append_getElem (show i < js.length by omega), hh.out.2.2, HKE.out.1, HKE.out.2, HKJ.out]⟩⟩
        · have HKJ := Lib.hid hkj
          have hbb : (!decide (k = j)) = true := by simp [hkj]
          rw [hbb]
          clear hbb hkj
          go_wp2
          go_ret
          refine ⟨ret_bool ?_, HOQ.out⟩
          symm
          rw [decide_eq_false_iff_not]
          intro e
          have : ks[i] = js[i]'(by omega) := by simp only [e]
          rw [HKE.out.1, HKE.out.2] at this
          exact HKJ.out this
      · have hi' : ¬ (i : Int) < (ks.length : Int) := by omega
        have hi2 : ¬ (i : Int) < (js.length : Int) := by omega
        go_wp2
        go_ret
        refine ⟨ret_bool ?_, hh.out.2.1⟩
        symm
        rw [decide_eq_true_iff]
        have := hh.out.2.2
        rw [List.take_of_length_le (by omega), List.take_of_length_le (by omega)] at this
        exact this
  · have hlen' : ((ks.length : Int) == (js.length : Int)) = false := by simp; omega
    have e : decide (ks = js) = false := by rw [decide_eq_false_iff_not]; intro e; exact hlen (by rw [e])
    rw [e]
    clear e
    go_enter Try.func38, Try.ntmps38
    go_wp2
    all_goals go_ret
    all_goals exact ⟨rfl, Only.refl _ _⟩
end Go.Proofs.Ytafeiankpckijaa
