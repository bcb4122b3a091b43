/- The methods at a nil store, and at one that no call made. -/
import Derived.Test.YtafeiankpckijaaLM
namespace Go.Proofs.Ytafeiankpckijaa
open Go.RowKit
set_option linter.unusedSimpArgs false
set_option linter.unusedVariables false
attribute [local go_sem ↓] Go.wp_at_zero Go.wp_at_succ
def Nobody (w : World) (v : Value) : Prop := v = .pointer none ∨ ∃ a, v = .pointer (some ⟨a, 0, none⟩) ∧ w.cell? ⟨a, 4, none⟩ = some (.map none)
theorem Nobody.frame {w w' : World} {v : Value} (h : Nobody w v) (ho : Only (fun _ => False) w w') : Nobody w' v := by
  rcases h with h | ⟨a, h, hc⟩
  · exact Or.inl h
  · exact Or.inr ⟨a, h, ho.cell hc (fun h => h)⟩
theorem made_nobody (w : World) (v : Value) (h : Nobody w v) : Calls Try.prog 45 #[v] w fun e w' => e = .returned (.bool false) ∧ w = w' := by
  have hq := fun (w : World) => run_neq_map_nil (P := Try.prog) w 30 38 3 none under30
  rcases h with rfl | ⟨a, rfl, h4⟩
  · go_enter Try.func45, Try.ntmps45
    go_wp2
    go_ret
    exact ⟨rfl, rfl⟩
  · go_enter Try.func45, Try.ntmps45
    go_wp2
    go_ret
    exact ⟨rfl, rfl⟩
theorem find_nobody (w : World) (v : Value) (k : Nat) (h : Nobody w v) : Calls Try.prog 42 #[v, .agg (sumC k).toArray] w fun e w' => e = .returned (.tuple #[.int .i64 0, .int .i64 6]) ∧ Only (fun _ => False) w w' := by
  have ho := (Only.refl (fun _ => False) w).alloc (.cells (sumC k).toArray 38)
  have K1 := Lib.hid (made_nobody _ v (h.frame ho))
  have HO := Lib.hid ho; clear ho h
  go_enter Try.func42, Try.ntmps42
  go_wp2_with fail
  refine K1.out.mono ?_
  rintro e w2 ⟨rfl, rfl⟩
  go_wp2
  go_ret2
  exact ⟨rfl, HO.out⟩
theorem get_nobody (w : World) (v : Value) (k : Nat) (h : Nobody w v) : Calls Try.prog 13 #[v, Sum_ k] w fun e w' => e = .returned (.tuple #[.slice none 0 0, .int .i64 6]) ∧ Only (fun _ => False) w w' := by
  have ho := (Only.refl (fun _ => False) w).alloc (.cells (sumC k).toArray 38)
  have KF := Lib.hid (find_nobody (w.alloc (.cells (sumC k).toArray 38)) v k (h.frame ho))
  have HR := Lib.hid (box_range w (sumC k) 38)
  have HI := Lib.hid (infoSum k)
  have HO := Lib.hid ho; clear ho h
  unfold Sum_
  go_enter Try.func13, Try.ntmps13
  go_wp2_with ((with_reducible refine gate_load 38 rfl ?_); refine wpList_load_mid rfl 38 _ rfl w.heap.size 0 (by rfl) (sumC k) _ HR.out under38 rfl HI.out ?_)
  refine KF.out.mono ?_
  rintro e w2 ⟨rfl, ho2⟩
  have HO2 := Lib.hid (HO.out.trans ho2); clear ho2
  go_wp2
  go_ret2
  exact ⟨rfl, HO2.out⟩
theorem pin_nobody (w : World) (v : Value) (k : Nat) (h : Nobody w v) : Calls Try.prog 18 #[v, Sum_ k] w fun e w' => e = .returned (.int .i64 6) ∧ Only (fun _ => False) w w' := by
  have ho := (Only.refl (fun _ => False) w).alloc (.cells (sumC k).toArray 38)
  have KF := Lib.hid (find_nobody (w.alloc (.cells (sumC k).toArray 38)) v k (h.frame ho))
  have HR := Lib.hid (box_range w (sumC k) 38)
  have HI := Lib.hid (infoSum k)
  have HO := Lib.hid ho; clear ho h
  unfold Sum_
  go_enter Try.func18, Try.ntmps18
  go_wp2_with ((with_reducible refine gate_load 38 rfl ?_); refine wpList_load_mid rfl 38 _ rfl w.heap.size 0 (by rfl) (sumC k) _ HR.out under38 rfl HI.out ?_)
  refine KF.out.mono ?_
  rintro e w2 ⟨rfl, ho2⟩
  have HO2 := Lib.hid (HO.out.trans ho2); clear ho2
  go_wp2
  go_ret
  exact ⟨rfl, HO2.out⟩
theorem unpin_nobody (w : World) (v : Value) (k : Nat) (h : Nobody w v) : Calls Try.prog 19 #[v, Sum_ k] w fun e w' => e = .returned (.int .i64 6) ∧ Only (fun _ => False) w w' := by
  have ho := (Only.refl (fun _ => False) w).alloc (.cells (sumC k).toArray 38)
  have KF := Lib.hid (find_nobody (w.alloc (.cells (sumC k).toArray 38)) v k (h.frame ho))
  have HR := Lib.hid (box_range w (sumC k) 38)
  have HI := Lib.hid (infoSum k)
  have HO := Lib.hid ho; clear ho h
  unfold Sum_
  go_enter Try.func19, Try.ntmps19
  go_wp2_with ((with_reducible refine gate_load 38 rfl ?_); refine wpList_load_mid rfl 38 _ rfl w.heap.size 0 (by rfl) (sumC k) _ HR.out under38 rfl HI.out ?_)
  refine KF.out.mono ?_
  rintro e w2 ⟨rfl, ho2⟩
  have HO2 := Lib.hid (HO.out.trans ho2); clear ho2
  go_wp2
  go_ret
  exact ⟨rfl, HO2.out⟩
theorem evict_nobody (w : World) (v : Value) (k : Nat) (h : Nobody w v) : Calls Try.prog 20 #[v, Sum_ k] w fun e w' => e = .returned (.int .i64 6) ∧ Only (fun _ => False) w w' := by
  have ho := (Only.refl (fun _ => False) w).alloc (.cells (sumC k).toArray 38)
  have KF := Lib.hid (find_nobody (w.alloc (.cells (sumC k).toArray 38)) v k (h.frame ho))
  have HR := Lib.hid (box_range w (sumC k) 38)
  have HI := Lib.hid (infoSum k)
  have HO := Lib.hid ho; clear ho h
  unfold Sum_
  go_enter Try.func20, Try.ntmps20
  go_wp2_with ((with_reducible refine gate_load 38 rfl ?_); refine wpList_load_mid rfl 38 _ rfl w.heap.size 0 (by rfl) (sumC k) _ HR.out under38 rfl HI.out ?_)
  refine KF.out.mono ?_
  rintro e w2 ⟨rfl, ho2⟩
  have HO2 := Lib.hid (HO.out.trans ho2); clear ho2
  go_wp2
  go_ret
  exact ⟨rfl, HO2.out⟩
theorem has_nobody (w : World) (v : Value) (k : Nat) (h : Nobody w v) : Calls Try.prog 21 #[v, Sum_ k] w fun e w' => e = .returned (.bool false) ∧ Only (fun _ => False) w w' := by
  have ho := (Only.refl (fun _ => False) w).alloc (.cells (sumC k).toArray 38)
  have KF := Lib.hid (find_nobody (w.alloc (.cells (sumC k).toArray 38)) v k (h.frame ho))
  have HR := Lib.hid (box_range w (sumC k) 38)
  have HI := Lib.hid (infoSum k)
  have HO := Lib.hid ho; clear ho h
  unfold Sum_
  go_enter Try.func21, Try.ntmps21
  go_wp2_with ((with_reducible refine gate_load 38 rfl ?_); refine wpList_load_mid rfl 38 _ rfl w.heap.size 0 (by rfl) (sumC k) _ HR.out under38 rfl HI.out ?_)
  refine KF.out.mono ?_
  rintro e w2 ⟨rfl, ho2⟩
  have HO2 := Lib.hid (HO.out.trans ho2); clear ho2
  go_wp2
  go_ret
  exact ⟨rfl, HO2.out⟩
theorem wipe_nobody (w : World) (v : Value) (h : Nobody w v) : Calls Try.prog 15 #[v] w fun e w' => e = .returned (.tuple #[]) ∧ Only (fun _ => False) w w' := by
  have HO := Lib.hid (Only.refl (fun _ => False) w)
  have K1 := Lib.hid (made_nobody _ v h); clear h
  go_enter Try.func15, Try.ntmps15
  go_wp2_with fail
  refine K1.out.mono ?_
  rintro e w2 ⟨rfl, rfl⟩
  go_wp2
  ((try simp only [Exit.inBlock, Exit.then]); refine bodyPost_ret (results_none rfl _ _ _) rfl ?_)
  exact ⟨rfl, HO.out⟩
theorem mademade_nobody (w : World) (v : Value) (h : Nobody w v) : Calls Try.prog 16 #[v] w fun e w' => e = .returned (.bool false) ∧ Only (fun _ => False) w w' := by
  have HO := Lib.hid (Only.refl (fun _ => False) w)
  have K1 := Lib.hid (made_nobody _ v h); clear h
  go_enter Try.func16, Try.ntmps16
  go_wp2_with fail
  refine K1.out.mono ?_
  rintro e w2 ⟨rfl, rfl⟩
  go_wp2
  go_ret
  exact ⟨rfl, HO.out⟩
theorem len_nobody (w : World) (v : Value) (h : Nobody w v) : Calls Try.prog 22 #[v] w fun e w' => e = .returned (.int .i64 0) ∧ Only (fun _ => False) w w' := by
  have HO := Lib.hid (Only.refl (fun _ => False) w)
  have K1 := Lib.hid (made_nobody _ v h); clear h
  go_enter Try.func22, Try.ntmps22
  go_wp2_with fail
  refine K1.out.mono ?_
  rintro e w2 ⟨rfl, rfl⟩
  go_wp2
  go_ret
  exact ⟨rfl, HO.out⟩
theorem bytes_nobody (w : World) (v : Value) (h : Nobody w v) : Calls Try.prog 23 #[v] w fun e w' => e = .returned (.int .i64 0) ∧ Only (fun _ => False) w w' := by
  have HO := Lib.hid (Only.refl (fun _ => False) w)
  have K1 := Lib.hid (made_nobody _ v h); clear h
  go_enter Try.func23, Try.ntmps23
  go_wp2_with fail
  refine K1.out.mono ?_
  rintro e w2 ⟨rfl, rfl⟩
  go_wp2
  go_ret
  exact ⟨rfl, HO.out⟩
theorem list_nobody (w : World) (v : Value) (h : Nobody w v) : Calls Try.prog 24 #[v] w fun e w' => e = .returned (.slice none 0 0) ∧ Only (fun _ => False) w w' := by
  have HO := Lib.hid (Only.refl (fun _ => False) w)
  have K1 := Lib.hid (made_nobody _ v h); clear h
  go_enter Try.func24, Try.ntmps24
  go_wp2_with fail
  refine K1.out.mono ?_
  rintro e w2 ⟨rfl, rfl⟩
  go_wp2
  go_ret
  exact ⟨rfl, HO.out⟩
theorem put_nobody (w : World) (v : Value) (k : Nat) (bo : Option Addr) (n c : Nat) (h : Nobody w v) : Calls Try.prog 17 #[v, Sum_ k, .slice bo n c] w fun e w' => e = .returned (.int .i64 6) ∧ Only (fun _ => False) w w' := by
  have ho := (Only.refl (fun _ => False) w).alloc (.cells (sumC k).toArray 38)
  have K1 := Lib.hid (made_nobody _ v (h.frame ho))
  have HO := Lib.hid ho; clear ho h
  unfold Sum_
  go_enter Try.func17, Try.ntmps17
  go_wp2_with fail
  refine K1.out.mono ?_
  rintro e w2 ⟨rfl, rfl⟩
  go_wp2
  go_ret
  exact ⟨rfl, HO.out⟩
end Go.Proofs.Ytafeiankpckijaa
