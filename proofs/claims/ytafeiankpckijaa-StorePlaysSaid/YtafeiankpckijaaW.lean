/- The walks of the laws' own small functions. -/
import Derived.Test.YtafeiankpckijaaV
namespace Go.Proofs.Ytafeiankpckijaa
open Go.RowKit
set_option linter.unusedSimpArgs false
set_option linter.unusedVariables false
attribute [local go_sem ↓] Go.wp_at_zero Go.wp_at_succ
theorem Only.setCells_new {w0 w : World} (h : Only (fun _ => False) w0 w) {b : Nat} (hb : w0.heap.size ≤ b) : ∀ (vs : List Value) (o : Nat), Only (fun _ => False) w0 (w.setCells b o vs)
  | [], _ => h
  | v :: vs, o => Only.setCells_new (h.setCell (p := ⟨b, o, none⟩) (Or.inr hb) v) hb vs (o + 1)
def keyOf (n : Int) : Nat := (n % 65536).toNat
theorem ksize (k : Nat) : (sumC k).toArray.size = 32 := by simp [sumC_len]
theorem keyOf_lt (n : Int) : keyOf n < 65536 := by unfold keyOf; omega
theorem results_cell_mid {P : Program} {fn : Func} {p : Tmp} {ty : TypeId} (h : fn.results = #[.cell p ty]) (tmps : Array Value) (w : World) (g : Nat) (cs : List Value) (d : TypeDesc)
    (hp : tmps.getD p undef = .pointer (some ⟨g, 0, none⟩)) (hg : w.rangeAt g 0 cs) (hu : P.underlying ty = some d) (hd : d.isRow = true) (hi : (P.info? ty).map (·.size) = some cs.length) :
    (results fn tmps).run P w = .ok (.agg cs.toArray) w := by
  have hp' : tmps[p]?.getD undef = .pointer (some ⟨g, 0, none⟩) := by simpa using hp
  simp [results, h, hp', asAddr, run_loadVar_mid w g 0 ty cs d hg hu hd hi]
theorem sum_cells (n : Int) : (sumC (keyOf n)) = [.int .u8 (n % 256), .int .u8 (n / 256 % 256)] ++ (List.replicate 29 (.int .u8 0) ++ [.int .u8 7]) := by
  have e1 : n % 256 = ((keyOf n % 256 : Nat) : Int) := by unfold keyOf; omega
  have e2 : n / 256 % 256 = ((keyOf n / 256 % 256 : Nat) : Int) := by unfold keyOf; omega
  rw [e1, e2]; rfl
set_option maxHeartbeats 1000000 in
theorem sum_any (n : Int) (w : World) : Calls Try.prog 14 #[.int .i64 n] w fun e w' => e = .returned (Sum_ (keyOf n)) ∧ Only (fun _ => False) w w' := by
  go_enter Try.func14, Try.ntmps14
  go_upto_region 3 with fail
  have hW : ∃ W, W = ((w.alloc (.cells (List.replicate 32 (Value.int .u8 0)).toArray 38)).alloc (.cells (sumC (keyOf n)).toArray 38)) := ⟨_, rfl⟩
  obtain ⟨W, hW⟩ := hW
  have h1 : W.rangeAt (w.heap.size + 1) 0 (sumC (keyOf n)) := by
    have := box_range (w.alloc (.cells (List.replicate 32 (Value.int .u8 0)).toArray 38)) (sumC (keyOf n)) 38
    rw [← hW] at this; simpa using this
  have h2 : W.there w.heap.size 0 32 := by
    rw [hW]; exact World.there_alloc (box_there w (List.replicate 32 (Value.int .u8 0)).toArray 38) _
  have h3 : Only (fun _ => False) w W := by rw [hW]; exact ((Only.refl _ w).alloc _).alloc _
  rw [sum_cells] at hW
  refine (congrArg (Code.wp Try.prog _ _ _) hW).mp ?_
  clear hW
  have HI := Lib.hid (infoSum (keyOf n))
  have H1 := Lib.hid h1; clear h1
  have H2 := Lib.hid h2; clear h2
  have H3 := Lib.hid h3; clear h3
  go_wp2_with (first
    | ((with_reducible refine gate_load 38 rfl ?_); go_must (refine wpList_load_mid rfl 38 _ rfl (w.heap.size + 1) 0 (by rfl) (sumC (keyOf n)) _ H1.out under38 rfl HI.out ?_))
    | ((with_reducible refine gate_store 38 rfl ?_); go_must (refine wpList_store_whole rfl 38 _ _ rfl w.heap.size 0 (sumC (keyOf n)).toArray (by rfl) (by rfl) (by rw [ksize]; exact H2.out) (by rw [ksize]; exact info38) (by kernel_rfl) ?_); intro w2 hw2; have H4 := Lib.hid hw2; clear hw2))
  have h4 : w2.rangeAt w.heap.size 0 (sumC (keyOf n)) := by rw [H4.out]; exact World.rangeAt_setCells_same _ _ _ _ (by rw [sumC_len]; exact H2.out)
  (try simp only [Exit.inBlock, Exit.then])
  refine bodyPost_ret (v := Sum_ (keyOf n)) (results_cell_mid rfl _ _ w.heap.size _ _ (by rfl) h4 under38 rfl HI.out) rfl ⟨rfl, ?_⟩
  rw [H4.out]
  exact Only.setCells_new H3.out (Nat.le_refl _) _ _
end Go.Proofs.Ytafeiankpckijaa
