/- The walks of Bytes, List and New, in the document's store. -/
import Derived.Test.YtafeiankpckijaaRG
namespace Go.Proofs.Ytafeiankpckijaa
open Go.RowKit
set_option linter.unusedSimpArgs false
set_option linter.unusedVariables false
attribute [local go_sem ↓] Go.wp_at_zero Go.wp_at_succ
theorem sB_take' {L : List Chunk} {j : Nat} (hj : j < L.length) : sB (L.take (j + 1)) = sB (L.take j) + (L[j]).b.length := by
  rw [List.take_succ_eq_append_getElem hj, sB_app]; simp [sB]
theorem sB_take_le' {L : List Chunk} {j : Nat} : sB (L.take j) ≤ sB L := by
  conv => rhs; rw [← List.take_append_drop j L, sB_app]
  omega
theorem bs45x (w : World) (k : Nat) : (Instr.buildSlice 45 1 #[(0, .agg (sumC k).toArray)]).run Try.prog w = .ok (.slice (some ⟨w.heap.size, 0, none⟩) 1 1) (w.alloc (.cells (sumC k).toArray 38)) := bs45 w k
set_option maxRecDepth 100000 in
set_option maxHeartbeats 8000000 in
theorem rbytes_any (W w : World) (r most room : Nat) (L : List Chunk) (G : Nat → Prop) (h : RefL W w r most room L G) (hl : L.length ≤ 64) (hs : sB L ≤ 1000000) :
    Calls Try.prog 37 #[.pointer (some ⟨r, 0, none⟩)] w fun e w' => e = .returned (.int .i64 (sB L)) ∧ Only (fun _ => False) w w' := by
  obtain ⟨R, v, hRL, hR⟩ := h
  obtain ⟨lo, cap, rfl⟩ := hR.row
  obtain ⟨dd, hu, hdr⟩ := under81
  have HU := Lib.hid (And.intro hu hdr)
  have HR := Lib.hid hR
  have c2 := hR.c2
  have hlen : R.length = L.length := by rw [← hRL, List.length_map]
  have HL := Lib.hid hRL
  clear hu hdr hR hRL
  go_enter Try.func37, Try.ntmps37
  go_wp2_with fail
  go_loopg [3, 11] R.length (fun gg v3 v11 wl => ∃ i : Nat, v11 = .int .i64 i ∧ v3 = .int .i64 (sB (L.take i)) ∧ Hid (i + gg = R.length ∧ Only (fun _ => False) w wl))
  case atStart => exact ⟨0, rfl, rfl, Lib.hid ⟨by omega, Only.refl _ _⟩⟩
  case round =>
    obtain ⟨i, rfl, rfl, hh⟩ := hrel
    obtain ⟨hig, ho⟩ := hh.out
    clear hh c2
    by_cases hi : i < R.length
    · have hi' : (i : Int) < (R.length : Int) := by omega
      have b0 : (0 : Int) ≤ i := by omega
      have h2 := HR.out.only ho
      have c2 := h2.c2
      have hx := List.getElem?_eq_getElem hi
      obtain ⟨g, cap', hv, hr⟩ := h2.at hx
      simp only [Value.slice.injEq] at hv
      obtain ⟨rfl, -, rfl⟩ := hv
      have hxl : L[i]'(by omega) = (R[i]).ch := by simp [← HL.out]
      have ht := sB_take' (L := L) (j := i) (by omega)
      rw [hxl] at ht
      have htl := sB_take_le' (L := L) (j := i + 1)
      have hbl : (R[i]).ch.b = (R[i]).b := rfl
      rw [hbl] at ht
      generalize R[i] = x at *
      have hwr : wrap64 ((sB (L.take i) : Int) + (x.b.length : Int)) = ((sB (L.take (i + 1)) : Nat) : Int) := by unfold wrap64; omega
      have HRG := Lib.hid hr
      have HI2 := Lib.hid (show (Try.prog.info? 81).map (·.size) = some x.cells.length by rw [info81, RC.len])
      have HO1 := Lib.hid ho
      have HW := Lib.hid hwr
      clear h2 hx hr ho ht htl hxl hbl
      go_wp2_with (first | ((with_reducible refine gate_load 81 rfl ?_); (refine wpList_load_mid rfl 81 _ rfl g (i * 34) (by rfl) x.cells dd HRG.out HU.out.1 HU.out.2 HI2.out ?_)) | ((with_reducible refine gate_store 81 rfl ?_); go_must (refine wpList_store_whole rfl 81 _ _ rfl wr.heap.size 0 x.cells.toArray (by rfl) (by rfl) (by rw [RC.size]; exact box_there wr _ 81) (by rw [RC.size]; exact info81) (by exact all_oneCell_toArray x.one) ?_); intro w4 hw4; have hv := var_rc rfl hw4; clear hw4; have HV4 := Lib.hid hv.1; have HO4 := Lib.hid hv.2; clear hv; have c32 : w4.cell? ⟨wr.heap.size, 32, none⟩ = some (.slice x.bo x.b.length x.cap) := by simpa using RC.slice HV4.out) | fail)
      go_roundg (R.length - (i + 1))
      case measure => omega
      case rel => exact ⟨i + 1, by go_num, by first | rfl | (rw [HW.out]), Lib.hid ⟨by omega, HO1.out.trans HO4.out.1⟩⟩
    · have hi' : ¬ (i : Int) < (R.length : Int) := by omega
      have hie : i = R.length := by omega
      have HO1 := Lib.hid ho
      have he : L.take i = L := by rw [hie, hlen, List.take_length]
      rw [he]
      clear ho he hie
      go_wp2
      go_ret
      exact ⟨rfl, HO1.out⟩
set_option maxRecDepth 100000 in
set_option maxHeartbeats 8000000 in
theorem rlist_any (W w : World) (r most room : Nat) (L : List Chunk) (G : Nat → Prop) (h : RefL W w r most room L G) (hl : L.length ≤ 64) :
    Calls Try.prog 39 #[.pointer (some ⟨r, 0, none⟩)] w fun e w' => ∃ u, e = .returned u ∧ Keys w' u (L.map (·.key)) ∧ Only (fun _ => False) w w' := by
  obtain ⟨R, v, hRL, hR⟩ := h
  obtain ⟨lo, cap, rfl⟩ := hR.row
  obtain ⟨dd, hu, hdr⟩ := under81
  have HU := Lib.hid (And.intro hu hdr)
  have HR := Lib.hid hR
  have c2 := hR.c2
  have HKS := Lib.hid hR.keys
  obtain ⟨i0, q1, q2, q3, q4⟩ := info_parts infoAll38
  have HQ := Lib.hid (And.intro q1 (And.intro q2 (And.intro q3 q4)))
  clear q1 q2 q3 q4
  have hlen : R.length = L.length := by rw [← hRL, List.length_map]
  have HL := Lib.hid hRL
  clear hu hdr hR hRL
  go_enter Try.func39, Try.ntmps39
  go_wp2_with fail
  go_loopg [3, 11] R.length (fun gg v3 v11 wl => ∃ i : Nat, v11 = .int .i64 i ∧ True ∧ Hid (i + gg = R.length ∧ Only (fun _ => False) w wl ∧ wl.ownsRow w.heap.size 38 32 v3 i ((R.take i).flatMap fun x => sumC x.key)))
  case atStart => exact ⟨0, rfl, trivial, Lib.hid ⟨by omega, Only.refl _ _, World.ownsRow_nil _ _ _ _⟩⟩
  case round =>
    obtain ⟨i, rfl, -, hh⟩ := hrel
    obtain ⟨hig, ho, hown⟩ := hh.out
    clear hh c2
    by_cases hi : i < R.length
    · have hi' : (i : Int) < (R.length : Int) := by omega
      have b0 : (0 : Int) ≤ i := by omega
      have h2 := HR.out.only ho
      have c2 := h2.c2
      have hx := List.getElem?_eq_getElem hi
      obtain ⟨g, cap', hv, hr⟩ := h2.at hx
      simp only [Value.slice.injEq] at hv
      obtain ⟨rfl, -, rfl⟩ := hv
      have hxl : L[i]'(by omega) = (R[i]).ch := by simp [← HL.out]
      have htk : R.take (i + 1) = R.take i ++ [R[i]] := List.take_succ_eq_append_getElem hi
      clear hxl
      generalize R[i] = x at *
      have HTK := Lib.hid htk
      have HRG := Lib.hid hr
      have HI := Lib.hid (infoSum x.key)
      have HI2 := Lib.hid (show (Try.prog.info? 81).map (·.size) = some x.cells.length by rw [info81, RC.len])
      have HO1 := Lib.hid ho
      have HOW := Lib.hid hown
      have hi64 : i ≤ 64 := by omega
      clear h2 hx hr ho hown htk
      go_wp2_with (first
        | ((with_reducible refine gate_load 81 rfl ?_); (refine wpList_load_mid rfl 81 _ rfl g (i * 34) (by rfl) x.cells dd HRG.out HU.out.1 HU.out.2 HI2.out ?_))
        | ((with_reducible refine gate_store 81 rfl ?_); go_must (refine wpList_store_whole rfl 81 _ _ rfl wr.heap.size 0 x.cells.toArray (by rfl) (by rfl) (by rw [RC.size]; exact box_there wr _ 81) (by rw [RC.size]; exact info81) (by exact all_oneCell_toArray x.one) ?_); intro w4 hw4; have hv := var_rc rfl hw4; clear hw4; have HV4 := Lib.hid hv.1; have HO4 := Lib.hid hv.2; clear hv; have hsz4 := HO4.out.1.size; have hsz1 := HO1.out.size; have ho4 : Only (fun _ => False) w w4 := HO1.out.trans HO4.out.1; have HO5 := Lib.hid ho4; have hs5 : w.heap.size ≤ (w4.alloc (.cells (sumC x.key).toArray 38)).heap.size := (Nat.le_trans ho4.size ((Only.refl (fun _ => False) w4).alloc (.cells (sumC x.key).toArray 38)).size); have own5 := Lib.hid ((own_only HOW.out HO4.out.1).alloc (.cells (sumC x.key).toArray 38)); have HH5 := Lib.hid (heap_alloc_new w4 (.cells (sumC x.key).toArray 38)); clear ho4)
        | ((with_reducible refine gate_load 38 rfl ?_); (refine wpList_load_mid rfl 38 _ rfl wr.heap.size 0 (by rfl) (sumC x.key) _ (RC.head HV4.out) under38 rfl HI.out ?_))
        | ((with_reducible refine gate_bs 45 rfl ?_); go_must (refine wpList_bs rfl 45 1 _ rfl _ (by simp only [List.map_toArray, List.map_cons, List.map_nil]; rfl) _ _ (bs45 _ x.key) ?_); intro w5 hw5; subst hw5)
        | (at_builtin; go_must (refine wpList_append_own _ rfl (.tmp 15) (.tmp 18) 45 rfl w.heap.size 38 i0 zeroSum 32 32 under45 HQ.out.1 HQ.out.2.1 HQ.out.2.2.1 HQ.out.2.2.2 (by rfl) (by decide) _ i _ (by rfl) (by exact own5.out) ⟨w4.heap.size, 0, none⟩ 1 1 (sumC x.key) (by rfl) (by rw [sumC_len]) (by exact row_cells HH5.out) (slotkey_one _) (by unfold maxLen; omega) (by omega) hs5 ?_); intro v6 w6 hown6 hgrow6 hnil6; have HO6 := Lib.hid (only_grown ((HO5.out.alloc _)) hgrow6 own5.out); have HOW6 := Lib.hid hown6; clear hown6 hgrow6 hnil6)
        | fail)
      go_roundg (R.length - (i + 1))
      case measure => omega
      case rel => exact ⟨i + 1, by go_num, trivial, Lib.hid ⟨by omega, HO6.out, by rw [HTK.out, List.flatMap_append]; simpa using HOW6.out⟩⟩
    · have hi' : ¬ (i : Int) < (R.length : Int) := by omega
      have hie : i = R.length := by omega
      have HO1 := Lib.hid ho
      have HOW := Lib.hid hown
      have HIE := Lib.hid hie
      clear ho hie hown
      go_wp2
      go_ret
      refine ⟨_, rfl, keys_of_owns (B := w.heap.size) ?_ ?_, HO1.out⟩
      · have h9 := HOW.out
        rw [HIE.out, List.take_length] at h9
        have e1 : (L.map (·.key)).length = R.length := by rw [List.length_map, hlen]
        have e2 : (L.map (·.key)).flatMap sumC = R.flatMap fun x => sumC x.key := by rw [← HL.out, List.map_map, List.flatMap_map]; rfl
        rw [e1, e2]; exact h9
      · intro q hq
        rw [← HL.out, List.map_map] at hq
        obtain ⟨y, hy, rfl⟩ := List.mem_map.1 hq
        exact HKS.out y hy
theorem rnew_good (W w : World) (n r : Nat) (h1 : 1 ≤ n) (h2 : n ≤ 64) (h3 : 1 ≤ r) (h4 : r ≤ 8192) (hW : W.heap.size ≤ w.heap.size) :
    Calls Try.prog 27 #[.int .i64 n, .int .i64 r] w fun e w' => e = .returned (.tuple #[.pointer (some ⟨w.heap.size, 0, none⟩), .int .i64 0]) ∧ RefL W w' w.heap.size n r [] (fun y => y = w.heap.size) ∧ Only (fun _ => False) w w' := by
  have b1 : decide ((n : Int) < 1) = false := decide_eq_false (by omega)
  have b2 : decide ((64 : Int) < (n : Int)) = false := decide_eq_false (by omega)
  have b3 : decide ((r : Int) < 1) = false := decide_eq_false (by omega)
  have b4 : decide ((8192 : Int) < (r : Int)) = false := decide_eq_false (by omega)
  have HW := Lib.hid hW
  clear h1 h2 h3 h4 hW
  go_enter Try.func27, Try.ntmps27
  go_wp2
  go_ret2
  refine ⟨rfl, ⟨[], _, rfl, ⟨heap_alloc_new _ _, World.ownsRow_nil _ _ _ _, (fun g hg => by cases hg), rfl, (fun x hx => by cases hx), (fun x hx => by cases hx), fun y hy => ?_⟩⟩, (Only.refl _ w).alloc _⟩
  subst hy
  exact ⟨HW.out, by simp⟩
theorem rnew_bad (w : World) (n r : Int) (h : n < 1 ∨ 64 < n ∨ r < 1 ∨ 8192 < r) :
    Calls Try.prog 27 #[.int .i64 n, .int .i64 r] w fun e w' => e = .returned (.tuple #[.pointer none, .int .i64 1]) ∧ w' = w := by
  by_cases c1 : n < 1
  · clear h
    go_enter Try.func27, Try.ntmps27
    go_wp2
    go_ret2
    exact ⟨rfl, rfl⟩
  have d1 : decide (n < 1) = false := decide_eq_false c1
  by_cases c2 : 64 < n
  · clear h c1
    go_enter Try.func27, Try.ntmps27
    go_wp2
    go_ret2
    exact ⟨rfl, rfl⟩
  have d2 : decide (64 < n) = false := decide_eq_false c2
  by_cases c3 : r < 1
  · clear h c1 c2
    go_enter Try.func27, Try.ntmps27
    go_wp2
    go_ret2
    exact ⟨rfl, rfl⟩
  have d3 : decide (r < 1) = false := decide_eq_false c3
  have c4 : 8192 < r := by omega
  clear h c1 c2 c3
  go_enter Try.func27, Try.ntmps27
  go_wp2
  go_ret2
  exact ⟨rfl, rfl⟩
end Go.Proofs.Ytafeiankpckijaa
