/- The walk of Put. -/
import Derived.Test.YtafeiankpckijaaJ
namespace Go.Proofs.Ytafeiankpckijaa
open Go.RowKit
set_option linter.unusedSimpArgs false
set_option linter.unusedVariables false
attribute [local go_sem ↓] Go.wp_at_zero Go.wp_at_succ
set_option maxRecDepth 100000 in
set_option maxHeartbeats 4000000 in
theorem put_yes (w : World) (a : Nat) (F : Nat → Prop) (c : C) (l r : List Nat) (E : List (Nat × Nat)) (ch : Nat → Chunk) (k : Nat) (hk : k < 65536) {j x : Nat} (h : Good w a F c (l ++ x :: r) E ch) (hs : seek k E 0 = some (j, x)) (ao : Option Addr) (n cap : Nat) :
    Calls Try.prog 17 #[.pointer (some ⟨a, 0, none⟩), .agg (sumC k).toArray, .slice ao n cap] w fun e w' => e = .returned (.int .i64 0) ∧ Good w' a F ((c.unlink x).link x) (l ++ r ++ [x]) E ch ∧ Only F w w' := by
  have h4 := h.mem.cat
  have hw := h.mem.lt_a
  have hne : w.heap.size ≠ a := by omega
  have K1 := Lib.hid (made_any a c.gm (w.alloc (.cells (sumC k).toArray 38)) (h.mem.alloc _).cat)
  have hlk : ∀ w', (∃ n, w' = (w.alloc (.cells (sumC k).toArray 38)).drewN n) → (Instr.lookup 30 (.map (some c.gm)) (.agg (sumC k).toArray) true).run Try.prog w' = .ok (.tuple #[.int .i64 x, .bool true]) w' := by
    rintro _ ⟨n, rfl⟩
    have := lookup_run _ hk ((h.mem.alloc (.cells (sumC k).toArray 38)).drewN n).map h.ents h.elt
    rw [hs] at this; exact this
  have hld : ∀ w', (∃ n, w' = (w.alloc (.cells (sumC k).toArray 38)).drewN n) → (Instr.loadAt 38 (.pointer (some ⟨w.heap.size, 0, none⟩))).run Try.prog w' = .ok (.agg (sumC k).toArray) w' := by
    rintro _ ⟨n, rfl⟩
    simp only [Instr.loadAt, Instr.sureAddr, Sem.run_bind, Sem.run_pure, Result.andThen_ok]
    exact run_loadVar_row _ _ 38 38 _ (0, 0) (.array 32 5) (heap_alloc_new _ _) under38 rfl (by rw [info38]; simp [sumC_len])
  have HOL := Lib.hid (fun n => ((Only.refl (fun _ => False) w).alloc (.cells (sumC k).toArray 38)).drewN n)
  have HBX := Lib.hid (fun n => show ((w.alloc (.cells (sumC k).toArray 38)).drewN n).heap[w.heap.size]? = some (.cells (sumC k).toArray 38 (0, 0)) from heap_alloc_new _ _)
  have HLK := Lib.hid hlk; clear hlk
  have HLD := Lib.hid hld; clear hld
  have HS := Lib.hid hs; clear hs
  have H := Lib.hid h; clear h
  go_enter Try.func17, Try.ntmps17
  go_wp2_with fail
  refine K1.out.mono ?_
  rintro e w1 ⟨rfl, rfl⟩
  go_wp2_with fail
  refine wp_region_quiet_lit (by kernel_rfl) (by kernel_rfl) ?_
  repeat (first | (go_big_quiet_want; refine quiet_load 38 _ rfl HLD.out ?_; go_frame; go_big_quiet_on) | (go_big_quiet_want; refine quiet_lookup 30 _ _ true rfl HLK.out ?_; go_frame; go_big_quiet_on) | go_big_quiet_step (fail))
  refine wpQuiet_nil ?_
  intro _ hw'
  obtain ⟨nq, rfl⟩ := hw'
  have ho2 := HOL.out nq
  have hbx := HBX.out nq
  have hsz : ((w.alloc (.cells (sumC k).toArray 38)).drewN nq).heap.size = w.heap.size + 1 := by simp
  generalize (w.alloc (.cells (sumC k).toArray 38)).drewN nq = w2 at *
  clear HOL HBX HLK HLD K1
  have HO := Lib.hid ho2; clear ho2
  have HB := Lib.hid hbx; clear hbx
  have HZ := Lib.hid hsz; clear hsz
  have hg2 := H.out.only HO.out (fun _ _ h => h)
  have KU := Lib.hid (unlink_any w2 a c x hg2.mem (hg2.link.lt x (by simp)) hg2.link.spotP hg2.link.spotN)
  have HG2 := Lib.hid hg2; clear hg2
  go_wp2_with fail
  refine KU.out.mono ?_
  rintro e w3 ⟨rfl, hm3, ho3⟩
  have KL := Lib.hid (link_any w3 a (c.unlink x) x hm3 (HG2.out.link.lt x (by simp)) HG2.out.link.unlink.spotY)
  have HO3 := Lib.hid ho3; clear ho3 hm3
  go_wp2_with fail
  refine KL.out.mono ?_
  rintro e w4 ⟨rfl, hm4, ho4⟩
  have hg4 := HG2.out.touched hm4 (HO3.out.trans ho4)
  have ho5 : Only F w w4 := (HO.out.mono (fun _ _ h => h.elim)).trans ((HO3.out.trans ho4).mono (fun k _ hk => by rcases hk with rfl | rfl; exact HG2.out.own _ (Or.inl rfl); exact HG2.out.own _ (Or.inr (Or.inl rfl))))
  have HG4 := Lib.hid hg4; clear hg4 hm4 ho4
  have HO5 := Lib.hid ho5; clear ho5
  go_wp2
  go_ret
  exact ⟨rfl, HG4.out, HO5.out⟩
set_option maxRecDepth 100000 in
set_option maxHeartbeats 4000000 in
theorem put_full (w : World) (a : Nat) (F : Nat → Prop) (c : C) (ord : List Nat) (E : List (Nat × Nat)) (ch : Nat → Chunk) (k : Nat) (hk : k < 65536) (h : Good w a F c ord E ch) (hs : seek k E 0 = none) (ao : Option Addr) (n cap : Nat)
    (hf : c.n ≤ heldN c ord ∨ c.room - heldB c ord < n) :
    Calls Try.prog 17 #[.pointer (some ⟨a, 0, none⟩), .agg (sumC k).toArray, .slice ao n cap] w fun e w' => e = .returned (.int .i64 7) ∧ Only (fun _ => False) w w' := by
  have q1 := h.fits
  have q2 := h.room
  have q3 := heldB_le c ord
  have h4 := h.mem.cat
  have hw := h.mem.lt_a
  have hne : w.heap.size ≠ a := by omega
  have K1 := Lib.hid (made_any a c.gm (w.alloc (.cells (sumC k).toArray 38)) (h.mem.alloc _).cat)
  have hlk : ∀ w', (∃ n, w' = (w.alloc (.cells (sumC k).toArray 38)).drewN n) → (Instr.lookup 30 (.map (some c.gm)) (.agg (sumC k).toArray) true).run Try.prog w' = .ok (.tuple #[.int .i64 0, .bool false]) w' := by
    rintro _ ⟨n, rfl⟩
    have := lookup_run _ hk ((h.mem.alloc (.cells (sumC k).toArray 38)).drewN n).map h.ents h.elt
    rw [hs] at this; exact this
  have hld : ∀ w', (∃ n, w' = (w.alloc (.cells (sumC k).toArray 38)).drewN n) → (Instr.loadAt 38 (.pointer (some ⟨w.heap.size, 0, none⟩))).run Try.prog w' = .ok (.agg (sumC k).toArray) w' := by
    rintro _ ⟨n, rfl⟩
    simp only [Instr.loadAt, Instr.sureAddr, Sem.run_bind, Sem.run_pure, Result.andThen_ok]
    exact run_loadVar_row _ _ 38 38 _ (0, 0) (.array 32 5) (heap_alloc_new _ _) under38 rfl (by rw [info38]; simp [sumC_len])
  have HOL := Lib.hid (fun n => ((Only.refl (fun _ => False) w).alloc (.cells (sumC k).toArray 38)).drewN n)
  have HBX := Lib.hid (fun n => show ((w.alloc (.cells (sumC k).toArray 38)).drewN n).heap[w.heap.size]? = some (.cells (sumC k).toArray 38 (0, 0)) from heap_alloc_new _ _)
  have HLK := Lib.hid hlk; clear hlk
  have HLD := Lib.hid hld; clear hld
  have HS := Lib.hid hs; clear hs
  have H := Lib.hid h; clear h
  go_enter Try.func17, Try.ntmps17
  go_wp2_with fail
  refine K1.out.mono ?_
  rintro e w1 ⟨rfl, rfl⟩
  go_wp2_with fail
  refine wp_region_quiet_lit (by kernel_rfl) (by kernel_rfl) ?_
  repeat (first | (go_big_quiet_want; refine quiet_load 38 _ rfl HLD.out ?_; go_frame; go_big_quiet_on) | (go_big_quiet_want; refine quiet_lookup 30 _ _ true rfl HLK.out ?_; go_frame; go_big_quiet_on) | go_big_quiet_step (fail))
  refine wpQuiet_nil ?_
  intro _ hw'
  obtain ⟨nq, rfl⟩ := hw'
  have ho2 := HOL.out nq
  have hbx := HBX.out nq
  have hsz : ((w.alloc (.cells (sumC k).toArray 38)).drewN nq).heap.size = w.heap.size + 1 := by simp
  generalize (w.alloc (.cells (sumC k).toArray 38)).drewN nq = w2 at *
  clear HOL HBX HLK HLD K1
  have HO := Lib.hid ho2; clear ho2
  have HB := Lib.hid hbx; clear hbx
  have HZ := Lib.hid hsz; clear hsz
  have hg2 := H.out.only HO.out (fun _ _ h => h)
  have KH := Lib.hid (held_any w2 a c ord hg2.mem hg2.link (by omega) (by have := hg2.flen; have := hg2.n64; omega))
  have h5 := hg2.mem.cmost
  rw [hg2.most] at h5
  have h6 := hg2.mem.croom
  obtain ⟨q2a, q2b⟩ := q2
  clear hg2
  rcases hf with hf | hf
  all_goals
    go_wp2_with fail
    refine KH.out.mono ?_
    rintro e w3 ⟨rfl, rfl⟩
    go_wp2
    all_goals go_ret
    all_goals exact ⟨rfl, HO.out⟩
end Go.Proofs.Ytafeiankpckijaa
