/- The walk of New. -/
import Derived.Test.YtafeiankpckijaaS
import Derived.Deep.Cut
namespace Go.Proofs.Ytafeiankpckijaa
open Go.RowKit
set_option linter.unusedSimpArgs false
set_option linter.unusedVariables false
attribute [local go_sem ↓] Go.wp_at_zero Go.wp_at_succ
theorem flat_get {α β : Type} (L : Nat) (f : α → List β) : ∀ (l : List α) (i j : Nat), (∀ x ∈ l, (f x).length = L) → j < L → (l.flatMap f)[i * L + j]? = (l[i]?).bind fun x => (f x)[j]?
  | [], i, j, _, _ => by simp
  | x :: l, i, j, h, hj => by
    have h1 := h x (by simp)
    rw [List.flatMap_cons]
    cases i with
    | zero => rw [Nat.zero_mul, Nat.zero_add, List.getElem?_append_left (by omega)]; simp
    | succ i =>
      rw [List.getElem?_append_right (by rw [h1, Nat.succ_mul]; omega), h1, show (i + 1) * L + j - L = i * L + j by rw [Nat.succ_mul]; omega]
      rw [flat_get L f l i j (fun y hy => h y (List.mem_cons_of_mem _ hy)) hj]; simp
theorem under26 : Try.prog.underlying 26 = some (.slice 75) := by kernel_rfl
theorem infoAll75 : (Try.prog.info? 75).map (fun i => (i.zero, i.size, i.bytes)) = some (some (.agg zeroSlot.toArray), 36, 80) := by kernel_rfl
theorem build75z (w : World) : (Instr.build 75 #[]).run Try.prog w = .ok (.agg zeroSlot.toArray) w := run_build w 75 _ _ (by kernel_rfl)
theorem build29 (w : World) (x y : Int) : (Instr.build 29 #[(2, .int .i64 x), (3, .int .i64 y)]).run Try.prog w = .ok (.agg #[.slice none 0 0, .slice none 0 0, .int .i64 x, .int .i64 y]) w := run_build w 29 _ _ (by kernel_rfl)
theorem build32 (w : World) (x y : Int) (m : Option Nat) (n r : Int) : (Instr.build 32 #[(0, .agg #[.slice none 0 0, .slice none 0 0, .int .i64 x, .int .i64 y]), (1, .map m), (2, .int .i64 n), (3, .int .i64 r)]).run Try.prog w =
    .ok (.agg #[.slice none 0 0, .slice none 0 0, .int .i64 x, .int .i64 y, .map m, .int .i64 n, .int .i64 r, .int .i64 0]) w := run_build w 32 _ _ (by kernel_rfl)
theorem bs26 (w : World) : (Instr.buildSlice 26 1 #[(0, .agg zeroSlot.toArray)]).run Try.prog w = .ok (.slice (some ⟨w.heap.size, 0, none⟩) 1 1) (w.alloc (.cells zeroSlot.toArray 75)) := by
  obtain ⟨i0, q1, q2, q3, q4⟩ := info_parts infoAll75
  refine run_buildSlice w 26 75 1 _ _ i0 _ under26 q1 q2 (by rw [q3]; omega) (by rw [q3]; omega) ?_
  rw [q3]
  kernel_rfl
theorem bs27 (w : World) (v : Int) : (Instr.buildSlice 27 1 #[(0, .int .i64 v)]).run Try.prog w = .ok (.slice (some ⟨w.heap.size, 0, none⟩) 1 1) (w.alloc (.cells #[.int .i64 v] 3)) := by
  obtain ⟨i0, q1, q2, q3, q4⟩ := info_parts infoAll3
  refine run_buildSlice w 27 3 1 _ _ i0 _ under27 q1 q2 (by rw [q3]; omega) (by rw [q3]; omega) ?_
  rw [q3]
  kernel_rfl
theorem build75zn (w : World) : (bldN 75 #[]).run Try.prog w = .ok (.agg zeroSlot.toArray) w := build75z w
theorem build29n (w : World) (x y : Int) : (bldN 29 #[(2, .int .i64 x), (3, .int .i64 y)]).run Try.prog w = .ok (.agg #[.slice none 0 0, .slice none 0 0, .int .i64 x, .int .i64 y]) w := build29 w x y
theorem build32n (w : World) (x y : Int) (m : Option Nat) (n r : Int) : (bldN 32 #[(0, .agg #[.slice none 0 0, .slice none 0 0, .int .i64 x, .int .i64 y]), (1, .map m), (2, .int .i64 n), (3, .int .i64 r)]).run Try.prog w =
    .ok (.agg #[.slice none 0 0, .slice none 0 0, .int .i64 x, .int .i64 y, .map m, .int .i64 n, .int .i64 r, .int .i64 0]) w := build32 w x y m n r
attribute [local go_sem ↓ high] bldN_eq
theorem mk30 (w : World) : (Instr.makeMap 30 none).run Try.prog w = .ok (.map (some w.heap.size)) (w.alloc (.map #[] 0)) := by
  unfold Instr.makeMap; simp [Sem.run]
attribute [local go_sem] build75zn build29n build32n mk30
def newHdr (vs vf : Value) (gm n r : Nat) : Array Value := #[vs, vf, .int .i64 (-1), .int .i64 (-1), .map (some gm), .int .i64 n, .int .i64 r, .int .i64 0]
theorem owns_of_block {w w' : World} {B s n : Nat} {e : TypeId} {v : Value} {xs : List Value} (h : w.ownsRow B e s v n xs) (hb : ∀ k, v.ownBlock = some k → w'.heap[k]? = w.heap[k]?) : w'.ownsRow B e s v n xs := by
  refine ⟨h.1, ?_⟩
  rcases h.2 with hn | ⟨g, cap, cur, rfl, hB, hg, rest⟩
  · exact .inl hn
  · exact .inr ⟨g, cap, cur, rfl, hB, (hb g rfl).trans hg, rest⟩
theorem owns_ne {w : World} {B s s' n n' : Nat} {e e' : TypeId} {v v' : Value} {xs xs' : List Value} (h : w.ownsRow B e s v n xs) (h' : w.ownsRow B e' s' v' n' xs') (hne : e ≠ e') {k : Nat} (hk : v.ownBlock = some k) : v'.ownBlock ≠ some k := by
  intro hk'
  rcases h.2 with ⟨rfl, _⟩ | ⟨g, cap, cur, rfl, hB, hg, rest⟩
  · cases hk
  rcases h'.2 with ⟨rfl, _⟩ | ⟨g', cap', cur', rfl, hB', hg', rest'⟩
  · cases hk'
  simp only [Value.ownBlock, Option.some.injEq] at hk hk'
  subst hk hk'
  rw [hg] at hg'
  injection hg' with e1
  injection e1 with e2 e3 e4
  exact hne e3
theorem arr_cells {w : World} {g : Nat} {t : TypeId} {cs : List Value} (hb : w.heap[g]? = some (.cells cs.toArray t (0, 0))) : ∀ j u, cs[j]? = some u → w.cell? ((⟨g, 0, none⟩ : Addr).add j) = some u := fun j u hj => by
  have ha : (⟨g, 0, none⟩ : Addr).add j = ⟨g, j, none⟩ := by unfold Addr.add; split <;> simp_all
  rw [ha, cell_of_row _ _ _ _ _ _ hb]; simpa using hj
theorem own_slice {w : World} {B s n : Nat} {e : TypeId} {v : Value} {xs : List Value} (h : w.ownsRow B e s v (n + 1) xs) : ∃ g cap, v = .slice (some ⟨g, 0, none⟩) (n + 1) cap := by
  rcases h.2 with ⟨_, h⟩ | ⟨g, cap, cur, rfl, _⟩
  · cases h
  · exact ⟨g, cap, rfl⟩
structure NewAt (w wl : World) (n r i j : Nat) (vs vf : Value) : Prop where
  hdr : wl.heap[w.heap.size + 1]? = some (.cells (newHdr vs vf w.heap.size n r) 32 (0, 0))
  map : wl.heap[w.heap.size]? = some (.map #[] 0)
  rs : wl.ownsRow (w.heap.size + 2) 75 36 vs i ((List.range i).flatMap fun _ => zeroSlot)
  rf : wl.ownsRow (w.heap.size + 2) 3 1 vf j ((List.range j).map fun j : Nat => Value.int .i64 ((n : Int) - 1 - j))
  only : Only (fun _ => False) w wl
namespace NewAt
variable {w wl : World} {n r i j : Nat} {vs vf : Value}
theorem lt (h : NewAt w wl n r i j vs vf) : w.heap.size + 1 < wl.heap.size := by
  by_cases hl : w.heap.size + 1 < wl.heap.size
  · exact hl
  · have := h.hdr; rw [Array.getElem?_eq_none (by omega)] at this; cases this
theorem c0 (h : NewAt w wl n r i j vs vf) : wl.cell? ⟨w.heap.size + 1, 0, none⟩ = some vs := by rw [cell_of_row _ _ _ _ _ _ h.hdr]; rfl
theorem c1 (h : NewAt w wl n r i j vs vf) : wl.cell? ⟨w.heap.size + 1, 1, none⟩ = some vf := by rw [cell_of_row _ _ _ _ _ _ h.hdr]; rfl
theorem fz (h : NewAt w wl n r i j vs vf) (o : Nat) : wl.frozen? ⟨w.heap.size + 1, o, none⟩ = false := frozen_of_row _ _ _ _ _ h.hdr
theorem alloc (h : NewAt w wl n r i j vs vf) (o : Obj) : NewAt w (wl.alloc o) n r i j vs vf :=
  ⟨(Below.heap_alloc _ _ _ h.lt).trans h.hdr, (Below.heap_alloc _ _ _ (by have := h.lt; omega)).trans h.map, h.rs.alloc o, h.rf.alloc o, h.only.alloc o⟩
theorem growS (h : NewAt w wl n r i j vs vf) {w5 : World} {v5 : Value} (hg : wl.grownBy w5 vs.ownBlock) (ho : w5.ownsRow (w.heap.size + 2) 75 36 v5 (i + 1) ((List.range i).flatMap (fun _ => zeroSlot) ++ zeroSlot)) :
    w5.cell? ⟨w.heap.size + 1, 0, none⟩ = some vs ∧ w5.frozen? ⟨w.heap.size + 1, 0, none⟩ = false ∧ NewAt w (w5.setCell ⟨w.heap.size + 1, 0, none⟩ v5) n r (i + 1) j v5 vf := by
  have hlt := h.lt
  have e1 : w5.heap[w.heap.size + 1]? = some (.cells (newHdr vs vf w.heap.size n r) 32 (0, 0)) := (hg.block _ hlt (fun e => by have := h.rs.lt _ e.symm; omega)).trans h.hdr
  have e2 : (w5.setCell ⟨w.heap.size + 1, 0, none⟩ v5).heap[w.heap.size + 1]? = _ := heap_setCell_same w5 _ 0 _ 32 v5 e1
  have eo : ∀ k, k ≠ w.heap.size + 1 → (w5.setCell ⟨w.heap.size + 1, 0, none⟩ v5).heap[k]? = w5.heap[k]? := fun k hk => heap_setCell_other _ _ _ _ hk
  refine ⟨by rw [cell_of_row _ _ _ _ _ _ e1]; rfl, frozen_of_row _ _ _ _ _ e1, e2, ?_, ?_, ?_, ?_⟩
  · rw [eo _ (by omega), hg.block _ (by omega) (fun e => by have := h.rs.lt _ e.symm; omega)]; exact h.map
  · rw [List.range_succ, List.flatMap_append]
    refine owns_of_block (w := w5) (by simpa using ho) fun k hk => eo k (by have := ho.lt k hk; omega)
  · refine owns_of_block h.rf fun k hk => ?_
    rw [eo k (by have := h.rf.lt k hk; omega)]
    exact hg.block k (h.rf.lt k hk).2 fun e => owns_ne h.rs h.rf (by decide) e.symm hk
  · exact (⟨hg.os.trans h.only.os, hg.tape.trans h.only.tape, hg.output.trans h.only.output, Nat.le_trans h.only.size hg.size, fun k hk hn =>
      (hg.block k (by omega) (fun e => by have := h.rs.lt k e.symm; omega)).trans (h.only.block k hk hn)⟩ : Only (fun _ => False) w w5).setCell (Or.inr (by simp)) _
theorem growF (h : NewAt w wl n r i j vs vf) {w5 : World} {v5 : Value} (hg : wl.grownBy w5 vf.ownBlock) (ho : w5.ownsRow (w.heap.size + 2) 3 1 v5 (j + 1) (((List.range j).map fun j : Nat => Value.int .i64 ((n : Int) - 1 - j)) ++ [.int .i64 ((n : Int) - 1 - j)])) :
    w5.cell? ⟨w.heap.size + 1, 1, none⟩ = some vf ∧ w5.frozen? ⟨w.heap.size + 1, 1, none⟩ = false ∧ NewAt w (w5.setCell ⟨w.heap.size + 1, 1, none⟩ v5) n r i (j + 1) vs v5 := by
  have hlt := h.lt
  have e1 : w5.heap[w.heap.size + 1]? = some (.cells (newHdr vs vf w.heap.size n r) 32 (0, 0)) := (hg.block _ hlt (fun e => by have := h.rf.lt _ e.symm; omega)).trans h.hdr
  have e2 : (w5.setCell ⟨w.heap.size + 1, 1, none⟩ v5).heap[w.heap.size + 1]? = _ := heap_setCell_same w5 _ 1 _ 32 v5 e1
  have eo : ∀ k, k ≠ w.heap.size + 1 → (w5.setCell ⟨w.heap.size + 1, 1, none⟩ v5).heap[k]? = w5.heap[k]? := fun k hk => heap_setCell_other _ _ _ _ hk
  refine ⟨by rw [cell_of_row _ _ _ _ _ _ e1]; rfl, frozen_of_row _ _ _ _ _ e1, e2, ?_, ?_, ?_, ?_⟩
  · rw [eo _ (by omega), hg.block _ (by omega) (fun e => by have := h.rf.lt _ e.symm; omega)]; exact h.map
  · refine owns_of_block h.rs fun k hk => ?_
    rw [eo k (by have := h.rs.lt k hk; omega)]
    exact hg.block k (h.rs.lt k hk).2 fun e => owns_ne h.rf h.rs (by decide) e.symm hk
  · rw [List.range_succ, List.map_append]
    refine owns_of_block (w := w5) (by simpa using ho) fun k hk => eo k (by have := ho.lt k hk; omega)
  · exact (⟨hg.os.trans h.only.os, hg.tape.trans h.only.tape, hg.output.trans h.only.output, Nat.le_trans h.only.size hg.size, fun k hk hn =>
      (hg.block k (by omega) (fun e => by have := h.rf.lt k e.symm; omega)).trans (h.only.block k hk hn)⟩ : Only (fun _ => False) w w5).setCell (Or.inr (by simp)) _
end NewAt
theorem newAt_start (w : World) (n r : Nat) : NewAt w ((w.alloc (.map #[] 0)).alloc (.cells (newHdr (.slice none 0 0) (.slice none 0 0) w.heap.size n r) 32)) n r 0 0 (.slice none 0 0) (.slice none 0 0) :=
  ⟨by have := heap_alloc_new (w.alloc (.map #[] 0)) (.cells (newHdr (.slice none 0 0) (.slice none 0 0) w.heap.size n r) 32); simpa using this,
   (Below.heap_alloc _ _ _ (by simp)).trans (heap_alloc_new _ _), World.ownsRow_nil _ _ _ _, World.ownsRow_nil _ _ _ _, ((Only.refl _ w).alloc _).alloc _⟩
set_option maxHeartbeats 1000000 in
theorem new_bad (w : World) (n r : Int) (h : n < 1 ∨ 64 < n ∨ r < 1 ∨ 8192 < r) : Calls Try.prog 26 #[.int .i64 n, .int .i64 r] w fun e w' => e = .returned (.tuple #[.pointer none, .int .i64 1]) ∧ w' = w := by
  have hc : (n < 1) ∨ (¬ n < 1 ∧ 64 < n) ∨ (¬ n < 1 ∧ ¬ 64 < n ∧ r < 1) ∨ (¬ n < 1 ∧ ¬ 64 < n ∧ ¬ r < 1 ∧ 8192 < r) := by omega
  clear h
  rcases hc with h | ⟨h1, h⟩ | ⟨h1, h2, h⟩ | ⟨h1, h2, h3, h⟩
  all_goals
    go_enter Try.func26, Try.ntmps26
    go_wp2
    go_ret2
    exact ⟨rfl, rfl⟩
set_option maxHeartbeats 1000000 in
theorem new_any (w : World) (n r : Nat) (h1 : 1 ≤ n) (h2 : n ≤ 64) (h3 : 1 ≤ r) (h4 : r ≤ 8192) :
    Calls Try.prog 26 #[.int .i64 n, .int .i64 r] w fun e w' => e = .returned (.tuple #[.pointer (some ⟨w.heap.size + 1, 0, none⟩), .int .i64 0]) ∧
      ∃ vs vf, NewAt w w' n r n n vs vf := by
  have g1 : ¬ (n : Int) < 1 := by omega
  have g2 : ¬ (64 : Int) < n := by omega
  have g3 : ¬ (r : Int) < 1 := by omega
  have g4 : ¬ (8192 : Int) < r := by omega
  go_enter Try.func26, Try.ntmps26
  go_wp2_with fail
  go_loopg [29] n (fun g v wl => ∃ i : Nat, v = .int .i64 i ∧ Hid (i + g = n ∧ ∃ vs vf, NewAt w wl n r i i vs vf))
  case atStart => exact ⟨0, rfl, Lib.hid ⟨by omega, _, _, newAt_start w n r⟩⟩
  case round =>
    obtain ⟨i, rfl, hh⟩ := hrel
    obtain ⟨hi, vs, vf, hna⟩ := hh.out
    clear hh
    by_cases hlt : i < n
    · have hlt' : (i : Int) < n := by omega
      have c0 := hna.c0
      obtain ⟨i0, q1, q2, q3, q4⟩ := info_parts infoAll75
      have HQ := Lib.hid (And.intro q1 (And.intro q2 (And.intro q3 q4))); clear q1 q2 q3 q4
      have hs1 := hna.only.size
      have hlt2 := hna.lt
      have HNA := Lib.hid hna; clear hna
      go_upto_region 8 with (first
        | ((with_reducible refine gate_bs 26 rfl ?_); go_must (refine wpList_bs rfl 26 1 _ rfl _ (by simp only [List.map_toArray, List.map_cons, List.map_nil]; rfl) _ _ (bs26 _) ?_); intro w4 hw4; have hna4 := Lib.hid (show NewAt w w4 n r i i vs vf from hw4 ▸ HNA.out.alloc _); have hb4 : w4.heap[wr.heap.size]? = some (.cells zeroSlot.toArray 75 (0, 0)) := hw4 ▸ heap_alloc_new _ _; have HB4 := Lib.hid hb4; clear hb4 hw4)
        | (at_builtin; go_must (refine wpList_append_own _ rfl (.tmp 37) (.tmp 39) 26 rfl (w.heap.size + 2) 75 i0 (.agg zeroSlot.toArray) 36 80 under26 HQ.out.1 HQ.out.2.1 HQ.out.2.2.1 HQ.out.2.2.2 (by rfl) (by decide) _ i _ (by rfl) (by exact hna4.out.rs) ⟨wr.heap.size, 0, none⟩ 1 1 zeroSlot (by rfl) (by rw [zeroSlot_len]) (by exact arr_cells HB4.out) zeroSlot_one (by unfold maxLen; omega) (by omega) (by have := hna4.out.lt; omega) ?_); intro v5 w5 hown5 hgrow5 hnil5; obtain ⟨g5, k5, rfl⟩ := own_slice hown5; obtain ⟨c50, f50, hna5⟩ := hna4.out.growS hgrow5 hown5; have HNA5 := Lib.hid hna5; clear hown5 hgrow5 hnil5 hna5))
      generalize w5.setCell ⟨w.heap.size + 1, 0, none⟩ (.slice (some ⟨g5, 0, none⟩) (i + 1) k5) = w6 at *
      clear c50 f50 c0 HQ HNA hna4 HB4
      have c1 := HNA5.out.c1
      obtain ⟨i0, q1, q2, q3, q4⟩ := info_parts infoAll3
      have HQ := Lib.hid (And.intro q1 (And.intro q2 (And.intro q3 q4))); clear q1 q2 q3 q4
      go_upto_region 9 with (first
        | ((with_reducible refine gate_bs 27 rfl ?_); go_must (refine wpList_bs rfl 27 1 _ rfl _ (by simp only [List.map_toArray, List.map_cons, List.map_nil]; rfl) _ _ (bs27 _ ((n : Int) - 1 - i)) ?_); intro w4 hw4; have hna4 := Lib.hid (show NewAt w w4 n r (i + 1) i _ vf from hw4 ▸ HNA5.out.alloc _); have hb4 : w4.heap[w6.heap.size]? = some (.cells [Value.int .i64 ((n : Int) - 1 - i)].toArray 3 (0, 0)) := hw4 ▸ heap_alloc_new _ _; have HB4 := Lib.hid hb4; clear hb4 hw4)
        | (at_builtin; go_must (refine wpList_append_own _ rfl (.tmp 49) (.tmp 54) 27 rfl (w.heap.size + 2) 3 i0 (.int .i64 0) 1 8 under27 HQ.out.1 HQ.out.2.1 HQ.out.2.2.1 HQ.out.2.2.2 (by rfl) (by decide) _ i _ (by rfl) (by exact hna4.out.rf) ⟨w6.heap.size, 0, none⟩ 1 1 [Value.int .i64 ((n : Int) - 1 - i)] (by rfl) (by rfl) (by exact arr_cells HB4.out) (ints_oneCell .i64 [(n : Int) - 1 - i]) (by unfold maxLen; omega) (by omega) (by have := hna4.out.lt; omega) ?_); intro v7 w7 hown7 hgrow7 hnil7; obtain ⟨g7, k7, rfl⟩ := own_slice hown7; obtain ⟨c70, f70, hna7⟩ := hna4.out.growF hgrow7 hown7; have HNA7 := Lib.hid hna7; clear hown7 hgrow7 hnil7 hna7))
      generalize w7.setCell ⟨w.heap.size + 1, 1, none⟩ (.slice (some ⟨g7, 0, none⟩) (i + 1) k7) = w8 at *
      clear c70 f70 c1 HQ HNA5 hna4 HB4
      go_wp2
      go_roundg (n - (i + 1))
      case measure => omega
      case rel => exact ⟨i + 1, by go_num, Lib.hid ⟨by omega, _, _, HNA7.out⟩⟩
    · obtain rfl : i = n := by omega
      have HNA := Lib.hid hna; clear hna
      go_wp2
      go_ret2
      exact ⟨rfl, vs, vf, HNA.out⟩
end Go.Proofs.Ytafeiankpckijaa
