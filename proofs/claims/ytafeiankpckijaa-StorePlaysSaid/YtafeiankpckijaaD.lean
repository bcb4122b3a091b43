/- The walks of find, held, loose. -/
import Derived.Test.YtafeiankpckijaaB
import Derived.Test.YtafeiankpckijaaK
namespace Go.Proofs.Ytafeiankpckijaa
open Go.RowKit
set_option linter.unusedSimpArgs false
set_option linter.unusedVariables false
attribute [local go_sem ↓] Go.wp_at_zero Go.wp_at_succ
set_option maxHeartbeats 1000000 in
theorem find_yes (w : World) (a : Nat) (c : C) (k : Nat) (E : List (Nat × Nat)) (h : Mem w a c) (hk : k < 65536) (he : Ents c.es.toList E) (hE : ∀ p ∈ E, p.1 < 65536) {j x : Nat} (hs : seek k E 0 = some (j, x)) :
    Calls Try.prog 42 #[.pointer (some ⟨a, 0, none⟩), .agg (sumC k).toArray] w fun e w' => e = .returned (.tuple #[.int .i64 x, .int .i64 0]) ∧ Only (fun _ => False) w w' := by
  have h4 := h.cat
  have hw := h.lt_a
  have hne : w.heap.size ≠ a := by omega
  have k1 := made_any a c.gm (w.alloc (.cells (sumC k).toArray 38)) (h.alloc _).cat
  have K1 := Lib.hid k1; clear k1
  have hlk : ∀ w', (∃ n, w' = (w.alloc (.cells (sumC k).toArray 38)).drewN n) → (Instr.lookup 30 (.map (some c.gm)) (.agg (sumC k).toArray) true).run Try.prog w' = .ok (.tuple #[.int .i64 x, .bool true]) w' := by
    rintro _ ⟨n, rfl⟩
    have := lookup_run _ hk ((h.alloc (.cells (sumC k).toArray 38)).drewN n).map he hE
    rw [hs] at this; exact this
  have hld : ∀ w', (∃ n, w' = (w.alloc (.cells (sumC k).toArray 38)).drewN n) → (Instr.loadAt 38 (.pointer (some ⟨w.heap.size, 0, none⟩))).run Try.prog w' = .ok (.agg (sumC k).toArray) w' := by
    rintro _ ⟨n, rfl⟩
    simp only [Instr.loadAt, Instr.sureAddr, Sem.run_bind, Sem.run_pure, Result.andThen_ok]
    exact run_loadVar_row _ _ 38 38 _ (0, 0) (.array 32 5) (heap_alloc_new _ _) under38 rfl (by rw [info38]; simp [sumC_len])
  have hol : ∀ n, Only (fun _ => False) w ((w.alloc (.cells (sumC k).toArray 38)).drewN n) := fun n => ((Only.refl _ _).alloc _).drewN n
  have HOL := Lib.hid hol; clear hol
  have HLK := Lib.hid hlk; clear hlk
  have HLD := Lib.hid hld; clear hld
  have H := Lib.hid h; clear h hs he hE
  go_enter Try.func42, Try.ntmps42
  go_wp2_with fail
  refine K1.out.mono ?_
  rintro e w2 ⟨rfl, rfl⟩
  go_wp2_with fail
  refine wp_region_quiet_lit (by kernel_rfl) (by kernel_rfl) ?_
  repeat (first | (go_big_quiet_want; refine quiet_load 38 _ rfl HLD.out ?_; go_frame; go_big_quiet_on) | (go_big_quiet_want; refine quiet_lookup 30 _ _ true rfl HLK.out ?_; go_frame; go_big_quiet_on) | go_big_quiet_step (fail))
  refine wpQuiet_nil ?_
  intro _ hw'
  obtain ⟨nq, rfl⟩ := hw'
  go_wp2
  go_ret2
  exact ⟨rfl, HOL.out nq⟩
set_option maxHeartbeats 1000000 in
theorem find_no (w : World) (a : Nat) (c : C) (k : Nat) (E : List (Nat × Nat)) (h : Mem w a c) (hk : k < 65536) (he : Ents c.es.toList E) (hE : ∀ p ∈ E, p.1 < 65536) (hs : seek k E 0 = none) :
    Calls Try.prog 42 #[.pointer (some ⟨a, 0, none⟩), .agg (sumC k).toArray] w fun e w' => e = .returned (.tuple #[.int .i64 0, .int .i64 90]) ∧ Only (fun _ => False) w w' := by
  have h4 := h.cat
  have hw := h.lt_a
  have hne : w.heap.size ≠ a := by omega
  have k1 := made_any a c.gm (w.alloc (.cells (sumC k).toArray 38)) (h.alloc _).cat
  have K1 := Lib.hid k1; clear k1
  have hlk : ∀ w', (∃ n, w' = (w.alloc (.cells (sumC k).toArray 38)).drewN n) → (Instr.lookup 30 (.map (some c.gm)) (.agg (sumC k).toArray) true).run Try.prog w' = .ok (.tuple #[.int .i64 0, .bool false]) w' := by
    rintro _ ⟨n, rfl⟩
    have := lookup_run _ hk ((h.alloc (.cells (sumC k).toArray 38)).drewN n).map he hE
    rw [hs] at this; exact this
  have hld : ∀ w', (∃ n, w' = (w.alloc (.cells (sumC k).toArray 38)).drewN n) → (Instr.loadAt 38 (.pointer (some ⟨w.heap.size, 0, none⟩))).run Try.prog w' = .ok (.agg (sumC k).toArray) w' := by
    rintro _ ⟨n, rfl⟩
    simp only [Instr.loadAt, Instr.sureAddr, Sem.run_bind, Sem.run_pure, Result.andThen_ok]
    exact run_loadVar_row _ _ 38 38 _ (0, 0) (.array 32 5) (heap_alloc_new _ _) under38 rfl (by rw [info38]; simp [sumC_len])
  have hol : ∀ n, Only (fun _ => False) w ((w.alloc (.cells (sumC k).toArray 38)).drewN n) := fun n => ((Only.refl _ _).alloc _).drewN n
  have HOL := Lib.hid hol; clear hol
  have HLK := Lib.hid hlk; clear hlk
  have HLD := Lib.hid hld; clear hld
  have H := Lib.hid h; clear h hs he hE
  go_enter Try.func42, Try.ntmps42
  go_wp2_with fail
  refine K1.out.mono ?_
  rintro e w2 ⟨rfl, rfl⟩
  go_wp2_with fail
  refine wp_region_quiet_lit (by kernel_rfl) (by kernel_rfl) ?_
  repeat (first | (go_big_quiet_want; refine quiet_load 38 _ rfl HLD.out ?_; go_frame; go_big_quiet_on) | (go_big_quiet_want; refine quiet_lookup 30 _ _ true rfl HLK.out ?_; go_frame; go_big_quiet_on) | go_big_quiet_step (fail))
  refine wpQuiet_nil ?_
  intro _ hw'
  obtain ⟨nq, rfl⟩ := hw'
  go_wp2
  go_ret2
  exact ⟨rfl, HOL.out nq⟩

end Go.Proofs.Ytafeiankpckijaa
