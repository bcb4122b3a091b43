/- The walk of 'awake'. -/
import Derived.Test.YtafeiankpckijaaMM
import Derived.Lib.SlBytesConst
import Derived.Deep.RegionHeld3
namespace Go.Proofs.Ytafeiankpckijaa
open Go.RowKit
set_option linter.unusedSimpArgs false
set_option linter.unusedVariables false
attribute [local go_sem ↓] Go.wp_at_zero Go.wp_at_succ
/-- The same, and a cell that is not the store's own. -/
structure Mine1 (w w' : World) (a most room p : Nat) (L : List Chunk) (ad : Addr) : Prop where
  rep : ∃ F, Rep w' a F most room p L ∧ (∀ y, F y → w.heap.size ≤ y) ∧ ¬ F ad.block
  only : Only (fun _ => False) w w'
theorem Mine1.frame {W w w' : World} {a most room p : Nat} {L : List Chunk} {ad : Addr} (h : Mine1 W w a most room p L ad) (ho : Only (fun _ => False) w w') : Mine1 W w' a most room p L ad := by
  obtain ⟨F, h1, h2, h3⟩ := h.rep
  exact ⟨⟨F, h1.frame ho, h2, h3⟩, h.only.trans ho⟩
theorem rep_get2 {w : World} {a most room p k : Nat} {F : Nat → Prop} {L : List Chunk} (h : Rep w a F most room p L) (hk : k < 65536) : Calls Try.prog 13 #[Ptr a, Sum_ k] w fun e w' => ∃ bo cb, e = .returned (.tuple #[.slice bo (dataOf k L).length cb, .int .i64 (getE k L)]) ∧
      DataAt w' (fun y => w.heap.size ≤ y) bo (dataOf k L) ∧ Rep w' a F most room p (touch k L) ∧ Only F w w' := by
  rcases h.cases k with ⟨c, l, x, r, E, ch, j, hg, hs, rfl, h2, h3, h4, h5, h6⟩ | ⟨c, ord, E, ch, hg, hs, rfl, h2, h3, h4⟩
  · have e1 : dataOf k (l.map ch ++ ch x :: r.map ch) = (ch x).b := by unfold dataOf; rw [split_own h4 h5 h6]; rfl
    have e2 : touch k (l.map ch ++ ch x :: r.map ch) = (l ++ r ++ [x]).map ch := by unfold touch; rw [split_oth h4 h5 h6, split_own h4 h5 h6]; simp
    refine (get_yes w a F c l r E ch k hk hg hs).mono ?_
    rintro e w' ⟨bo, cb, rfl, h7, h8, h9⟩
    refine ⟨bo, cb, by rw [e1, getE, has_split h4]; rfl, by rw [e1]; exact fun j hj => h7 j hj, ?_, h9⟩
    rw [e2]
    refine Rep.mk' h8 rfl h2 h3 ?_
    intro y hy; exact h.pins y (by simp at hy ⊢; rcases hy with hy | hy | hy <;> simp [hy])
  · have e1 : own k (ord.map ch) = [] := by unfold own; rw [List.filter_eq_nil_iff.2 (by simpa using h4)]
    have e2 : touch k (ord.map ch) = ord.map ch := by unfold touch; rw [e1]; unfold oth; rw [List.filter_eq_self.2 (by simpa using h4)]; simp
    refine (get_no w a F c _ E ch k hk hg hs).mono ?_
    rintro e w' ⟨rfl, ho⟩
    have e3 : dataOf k (ord.map ch) = [] := by unfold dataOf; rw [e1]; rfl
    refine ⟨none, 0, by rw [e3, getE, has_none h4]; rfl, by rw [e3]; exact fun j hj => by simp at hj, ?_, ho.mono (fun _ _ h => h.elim)⟩
    rw [e2]; exact h.frame ho
def A1 : List Chunk := [⟨1, [97], 0⟩]
def A2 : List Chunk := [⟨1, [97], 0⟩, ⟨2, [98], 0⟩]
def A3 : List Chunk := [⟨2, [98], 0⟩, ⟨1, [97], 0⟩]
def A4 : List Chunk := [⟨1, [97], 0⟩, ⟨3, [99], 0⟩]
def A5 : List Chunk := [⟨1, [97], 1⟩, ⟨3, [99], 0⟩]
def A6 : List Chunk := [⟨1, [97], 1⟩, ⟨4, [100], 0⟩]
section
variable {W w : World} {a p : Nat}
theorem a1 (h : Mine W w a 2 10 p []) {wb w2 : World} (hb : wb = w.alloc (.cells #[.int .u8 97] 5 (1, 2))) (ho : Only (fun _ => False) wb w2) : Calls Try.prog 17 #[.pointer (some ⟨a, 0, none⟩), Sum_ 1, .slice (some ⟨w.heap.size, 0, none⟩) 1 1] w2 fun e w' => e = .returned (.int .i64 0) ∧ Mine W w' a 2 10 p A1 := h.put_box (by decide) [97] hb ho 1 (by decide)
theorem a2 (h : Mine W w a 2 10 p A1) {wb w2 : World} (hb : wb = w.alloc (.cells #[.int .u8 98] 5 (1, 2))) (ho : Only (fun _ => False) wb w2) : Calls Try.prog 17 #[.pointer (some ⟨a, 0, none⟩), Sum_ 2, .slice (some ⟨w.heap.size, 0, none⟩) 1 1] w2 fun e w' => e = .returned (.int .i64 0) ∧ Mine W w' a 2 10 p A2 := h.put_box (by decide) [98] hb ho 1 (by decide)
theorem a3 (h : Mine W w a 2 10 p A2) : Calls Try.prog 13 #[.pointer (some ⟨a, 0, none⟩), Sum_ 1] w fun e w' => ∃ ad cb, e = .returned (.tuple #[.slice (some ad) 1 cb, .int .i64 0]) ∧ w'.cell? ad = some (.int .u8 97) ∧ Mine1 W w' a 2 10 p A3 ad := by
  obtain ⟨F, h1, h2⟩ := h.rep
  refine (rep_get2 h1 (k := 1) (by decide)).mono ?_
  rintro e w' ⟨bo, cb, rfl, hd, hr, ho⟩
  obtain ⟨ad, rfl, h3, h4⟩ := hd 0 (by decide)
  have h3' : w'.cell? (ad.add 0) = some (.int .u8 97) := h3
  exact ⟨ad, cb, rfl, by simpa [Addr.add] using h3', ⟨F, hr, h2, fun hf => absurd (h1.low _ hf) (by omega)⟩, h.only.trans' ho (fun i hi hf => by have := h2 i hf; omega)⟩
theorem a4 {ad : Addr} {v : Value} (h : Mine1 W w a 2 10 p A3 ad) {wb w2 : World} (hb : wb = w.alloc (.cells #[.int .u8 99] 5 (1, 2))) (ho : Only (fun _ => False) wb w2) (hc : w2.cell? ad = some v) : Calls Try.prog 17 #[.pointer (some ⟨a, 0, none⟩), Sum_ 3, .slice (some ⟨w.heap.size, 0, none⟩) 1 1] w2 fun e w' => e = .returned (.int .i64 0) ∧ Mine W w' a 2 10 p A4 ∧ w'.cell? ad = some v := by
  subst hb
  obtain ⟨F, h1, h2, h3⟩ := h.rep
  have ho' : Only (fun _ => False) w w2 := ((Only.refl _ w).alloc _).trans ho
  have hd : DataAt w2 (fun y => ¬ F y) (some ⟨w.heap.size, 0, none⟩) [99] := fun j hj => by
    refine ⟨_, rfl, ho.cell ?_ (fun h => h), fun hf => absurd (h1.low _ hf) (by simp)⟩
    have ha : (⟨w.heap.size, 0, none⟩ : Addr).add j = ⟨w.heap.size, j, none⟩ := by unfold Addr.add; split <;> simp_all
    rw [ha, cell_of_row _ _ _ _ _ _ (heap_alloc_new _ _)]
    simp at hj; subst hj; rfl
  refine (rep_put (h1.frame ho') (k := 3) (by decide) hd (by decide)).mono ?_
  rintro e w' ⟨rfl, ht⟩; exact ⟨rfl, Mine.go (h.only.trans ho') h2 ht, ht.only.cell hc h3⟩
theorem a5 (h : Mine W w a 2 10 p A4) (hp : p < 1000000000) : Calls Try.prog 18 #[.pointer (some ⟨a, 0, none⟩), Sum_ 1] w fun e w' => e = .returned (.int .i64 0) ∧ Mine W w' a 2 10 (p + 1) A5 := h.pin (k := 1) (by decide) hp
theorem a6 (h : Mine W w a 2 10 p A5) {wb w2 : World} (hb : wb = w.alloc (.cells #[.int .u8 100] 5 (1, 2))) (ho : Only (fun _ => False) wb w2) : Calls Try.prog 17 #[.pointer (some ⟨a, 0, none⟩), Sum_ 4, .slice (some ⟨w.heap.size, 0, none⟩) 1 1] w2 fun e w' => e = .returned (.int .i64 0) ∧ Mine W w' a 2 10 p A6 := h.put_box (by decide) [100] hb ho 1 (by decide)
theorem a7 (h : Mine W w a 2 10 p A6) : Calls Try.prog 21 #[.pointer (some ⟨a, 0, none⟩), Sum_ 1] w fun e w' => e = .returned (.bool true) ∧ Only (fun _ => False) w w' := h.has (k := 1) (by decide)
theorem a8 (h : Mine W w a 2 10 p A6) : Calls Try.prog 21 #[.pointer (some ⟨a, 0, none⟩), Sum_ 3] w fun e w' => e = .returned (.bool false) ∧ Only (fun _ => False) w w' := h.has (k := 3) (by decide)
theorem a9 (h : Mine W w a 2 10 p A6) {wb w2 : World} (hb : wb = w.alloc (.cells #[.int .u8 0, .int .u8 0, .int .u8 0, .int .u8 0, .int .u8 0, .int .u8 0, .int .u8 0, .int .u8 0, .int .u8 0, .int .u8 0, .int .u8 0] 5)) (ho : Only (fun _ => False) wb w2) :
    Calls Try.prog 17 #[.pointer (some ⟨a, 0, none⟩), Sum_ 5, .slice (some ⟨w.heap.size, 0, none⟩) 11 11] w2 fun e w' => e = .returned (.int .i64 7) ∧ Mine W w' a 2 10 p A6 := h.put_box (by decide) [0, 0, 0, 0, 0, 0, 0, 0, 0, 0, 0] hb ho 11 (by decide)
theorem sumK (n : Nat) (hn : n < 65536) (w : World) : Calls Try.prog 14 #[.int .i64 n] w fun e w' => e = .returned (Sum_ n) ∧ Only (fun _ => False) w w' := by
  have := sum_any (n : Int) w
  rwa [show keyOf (n : Int) = n by unfold keyOf; omega] at this
end
theorem bs45two (w : World) (k j : Nat) : (Instr.buildSlice 45 2 #[(0, .agg (sumC k).toArray), (1, .agg (sumC j).toArray)]).run Try.prog w = .ok (.slice (some ⟨w.heap.size, 0, none⟩) 2 2) (w.alloc (.cells (sumC k ++ sumC j).toArray 38)) := by
  obtain ⟨i0, q1, q2, q3, q4⟩ := info_parts infoAll38
  refine run_buildSlice w 45 38 2 _ _ i0 zeroSum under45 q1 q2 (by rw [q3]; omega) (by rw [q3]; omega) ?_
  rw [q3]
  kernel_rfl
theorem keys_two (w : World) (k j : Nat) (hk : k < 65536) (hj : j < 65536) : Keys (w.alloc (.cells (sumC k ++ sumC j).toArray 38)) (.slice (some ⟨w.heap.size, 0, none⟩) 2 2) [k, j] := by
  refine ⟨_, 2, rfl, fun i q hi => ?_⟩
  have hl := sumC_len k
  rcases i with _ | _ | i
  · simp at hi; subst hi
    refine ⟨hk, _, 0, rfl, fun m v hm => ?_⟩
    rw [cell_of_row _ _ _ _ _ _ (heap_alloc_new _ _)]
    have := (List.getElem?_eq_some_iff.1 hm).1
    simp only [List.getElem?_toArray]
    rw [List.getElem?_append_left (by omega)]; simpa using hm
  · simp at hi; subst hi
    refine ⟨hj, _, 0, rfl, fun m v hm => ?_⟩
    rw [cell_of_row _ _ _ _ _ _ (heap_alloc_new _ _)]
    simp only [List.getElem?_toArray]
    rw [List.getElem?_append_right (by omega)]
    rw [show 0 + (0 + 1) * 32 + m - (sumC k).length = m by omega]; exact hm
  · simp at hi
theorem conv22 (w : World) (C : Array Value) (n c : Nat) : (convert 22 22 (.slice (some ⟨w.heap.size, 0, none⟩) n c)).run Try.prog (w.alloc (.cells C 5)) = .ok (.slice (some ⟨w.heap.size, 0, none⟩) n c) (w.alloc (.cells C 5 (C.size, C.size + 1))) :=
  Lib.run_convert_bytes_const w 22 5 C n c under22 under5
theorem eq13 {w : World} {v : Value} (h : Keys w v [1, 3]) : Calls Try.prog 38 #[v, .slice (some ⟨w.heap.size, 0, none⟩) 2 2] (w.alloc (.cells (sumC 1 ++ sumC 3).toArray 38)) fun e w' => e = .returned (.bool true) ∧ Only (fun _ => False) w w' := by
  refine (equal_any _ _ _ [1, 3] [1, 3] (h.frame ((Only.refl _ _).alloc _)) (keys_two _ 1 3 (by omega) (by omega)) (by decide) (by decide)).mono ?_
  rintro e w' ⟨rfl, ho⟩
  exact ⟨rfl, ((Only.refl _ w).alloc _).trans ho⟩
theorem l13 {W w : World} {a p : Nat} (h : Mine W w a 2 10 p A4) : Calls Try.prog 24 #[.pointer (some ⟨a, 0, none⟩)] w fun e w' => ∃ v, e = .returned v ∧ Keys w' v [1, 3] ∧ Mine W w' a 2 10 p A4 := by
  refine h.list.mono ?_
  rintro e w' ⟨v, rfl, h1, h2⟩; exact ⟨v, rfl, h1, h.frame h2⟩
theorem s1 (w : World) : Calls Try.prog 14 #[.int .i64 1] w fun e w' => e = .returned (Sum_ 1) ∧ Only (fun _ => False) w w' := sumK 1 (by omega) w
theorem s3 (w : World) : Calls Try.prog 14 #[.int .i64 3] w fun e w' => e = .returned (Sum_ 3) ∧ Only (fun _ => False) w w' := sumK 3 (by omega) w
theorem s4 (w : World) : Calls Try.prog 14 #[.int .i64 4] w fun e w' => e = .returned (Sum_ 4) ∧ Only (fun _ => False) w w' := sumK 4 (by omega) w
theorem s5 (w : World) : Calls Try.prog 14 #[.int .i64 5] w fun e w' => e = .returned (Sum_ 5) ∧ Only (fun _ => False) w w' := sumK 5 (by omega) w
theorem bs45S (w : World) : (Instr.buildSlice 45 2 #[(0, Sum_ 1), (1, Sum_ 3)]).run Try.prog w = .ok (.slice (some ⟨w.heap.size, 0, none⟩) 2 2) (w.alloc (.cells (sumC 1 ++ sumC 3).toArray 38)) := bs45two w 1 3
theorem bs22 (w : World) (v : Int) : (Instr.buildSlice 22 1 #[(0, .int .u8 v)]).run Try.prog w = .ok (.slice (some ⟨w.heap.size, 0, none⟩) 1 1) (w.alloc (.cells #[.int .u8 v] 5)) := by
  obtain ⟨i0, q1, q2, q3, q4⟩ := info_parts info5
  refine run_buildSlice w 22 5 1 _ _ i0 _ under22 q1 q2 (by rw [q3]; omega) (by rw [q3]; omega) ?_
  rw [q3]
  kernel_rfl
theorem conv_late {w0 wS : World} {C : Array Value} (ho : Only (fun _ => False) (w0.alloc (.cells C 5)) wS) (n c : Nat) :
    (convert 22 22 (.slice (some ⟨w0.heap.size, 0, none⟩) n c)).run Try.prog wS = .ok (.slice (some ⟨w0.heap.size, 0, none⟩) n c) (wS.freeze ⟨w0.heap.size, C.size, none⟩ 1) := by
  have hb : wS.heap[w0.heap.size]? = some (.cells C 5) := (ho.block _ (by simp) (fun h => h)).trans (heap_alloc_new _ _)
  have hsh : wS.shape? w0.heap.size = some (5, C.size) := by unfold World.shape?; rw [hb]
  simp [convert, run_underlying under22, run_underlying under5, markStringish, hsh]
  try rfl
theorem freeze_heap (w : World) (g k : Nat) (C : Array Value) (hb : w.heap[g]? = some (.cells C 5)) : (w.freeze ⟨g, k, none⟩ 1).heap[g]? = some (.cells C 5 (k, k + 1)) ∧ (w.freeze ⟨g, k, none⟩ 1).heap.size = w.heap.size ∧
    (∀ i, i ≠ g → (w.freeze ⟨g, k, none⟩ 1).heap[i]? = w.heap[i]?) ∧ (w.freeze ⟨g, k, none⟩ 1).os = w.os ∧ (w.freeze ⟨g, k, none⟩ 1).tape = w.tape ∧ (w.freeze ⟨g, k, none⟩ 1).output = w.output := by
  unfold World.freeze
  rw [if_neg (by decide)]
  refine ⟨?_, by simp, fun i hi => ?_, rfl, rfl, rfl⟩
  · simp [Array.getElem?_modify, hb]
  · simp [Array.getElem?_modify, Ne.symm hi]
theorem put_late {W w wS : World} {a most room p k : Nat} {L : List Chunk} (h : Mine W w a most room p L) (hk : k < 65536) (cs : List Int) (ho : Only (fun _ => False) (w.alloc (.cells ((cs.map (Value.int .u8)).toArray) 5)) wS) (m cap : Nat) (hl : cs.length ≤ 1000000) :
    Calls Try.prog 17 #[Ptr a, Sum_ k, .slice (some ⟨w.heap.size, 0, none⟩) cs.length cap] (wS.freeze ⟨w.heap.size, m, none⟩ 1) fun e w' => e = .returned (.int .i64 (putE most room k cs.length L)) ∧ Mine W w' a most room p (putL most room k cs L) := by
  obtain ⟨F, h1, h2⟩ := h.rep
  have hb : wS.heap[w.heap.size]? = some (.cells ((cs.map (Value.int .u8)).toArray) 5) := (ho.block _ (by simp) (fun h => h)).trans (heap_alloc_new _ _)
  obtain ⟨f1, f2, f3, f4, f5, f6⟩ := freeze_heap wS w.heap.size m _ hb
  have ho0 : Only (fun _ => False) w wS := ((Only.refl _ w).alloc _).trans ho
  have ho' : Only (fun _ => False) w (wS.freeze ⟨w.heap.size, m, none⟩ 1) := ⟨f4.trans ho0.os, f5.trans ho0.tape, f6.trans ho0.output, by rw [f2]; exact ho0.size, fun i hi hn => (f3 i (by omega)).trans (ho0.block i hi hn)⟩
  have hd : DataAt (wS.freeze ⟨w.heap.size, m, none⟩ 1) (fun y => ¬ F y) (some ⟨w.heap.size, 0, none⟩) cs := fun j hj => by
    refine ⟨_, rfl, ?_, fun hf => absurd (h1.low _ hf) (by simp)⟩
    have ha : (⟨w.heap.size, 0, none⟩ : Addr).add j = ⟨w.heap.size, j, none⟩ := by unfold Addr.add; split <;> simp_all
    rw [ha, cell_of_row _ _ _ _ _ _ f1]
    simp [List.getD, hj]
  refine (rep_put (h1.frame ho') hk hd hl).mono ?_
  rintro e w' ⟨rfl, ht⟩; exact ⟨rfl, Mine.go (h.only.trans ho') h2 ht⟩
theorem a6l {W w wS : World} {a p : Nat} (h : Mine W w a 2 10 p A5) (ho : Only (fun _ => False) (w.alloc (.cells #[.int .u8 100] 5)) wS) : Calls Try.prog 17 #[.pointer (some ⟨a, 0, none⟩), Sum_ 4, .slice (some ⟨w.heap.size, 0, none⟩) 1 1] (wS.freeze ⟨w.heap.size, 1, none⟩ 1) fun e w' => e = .returned (.int .i64 0) ∧ Mine W w' a 2 10 p A6 :=
  put_late h (k := 4) (by decide) [100] ho 1 1 (by decide)
theorem mk22 (w : World) : (Instr.makeSlice 22 (.int .i64 11) (.int .i64 11)).run Try.prog w = .ok (.slice (some ⟨w.heap.size, 0, none⟩) 11 11) (w.alloc (.cells #[.int .u8 0, .int .u8 0, .int .u8 0, .int .u8 0, .int .u8 0, .int .u8 0, .int .u8 0, .int .u8 0, .int .u8 0, .int .u8 0, .int .u8 0] 5)) := by
  kernel_rfl
def bld45 : Sem Value := Instr.buildSlice 45 2 #[(0, Sum_ 1), (1, Sum_ 3)]
theorem bld45_eq : Instr.buildSlice 45 2 #[(0, Sum_ 1), (1, Sum_ 3)] = bld45 := rfl
theorem bld45_run (w : World) : bld45.run Try.prog w = .ok (.slice (some ⟨w.heap.size, 0, none⟩) 2 2) (w.alloc (.cells (sumC 1 ++ sumC 3).toArray 38)) := bs45S w
attribute [local go_sem high] bld45_eq
attribute [local go_sem] bld45_run conv22 mk22
set_option maxRecDepth 100000 in
set_option maxHeartbeats 12000000 in
theorem awake_any (W : World) : Calls Try.prog 25 #[] W fun e w' => e = .returned (.bool true) ∧ Only (fun _ => False) W w' := by
  have KN := Lib.hid (new_mine W 2 10 (by omega) (by omega) (by omega) (by omega))
  go_enter Try.func25, Try.ntmps25
  go_wp2_with fail
  refine KN.out.mono ?_
  rintro e w1 ⟨rfl, hm⟩
  generalize W.heap.size + 1 = a at *
  have HM := Lib.hid hm; clear hm KN
  unfold Ptr
  go_wp2_with fail
  refine (sumK 1 (by omega) _).mono ?_
  rintro e w2 ⟨rfl, ho⟩
  have HM2 := Lib.hid (HM.out.frame ho); clear HM ho
  go_wp2_with fail
  refine (a1 HM2.out rfl (Only.refl _ _)).mono ?_
  rintro e w3 ⟨rfl, hm⟩
  have HM := Lib.hid hm; clear HM2 hm
  go_wp2_with fail
  refine (sumK 2 (by omega) _).mono ?_
  rintro e w4 ⟨rfl, ho⟩
  have HM2 := Lib.hid (HM.out.frame ho); clear HM ho
  go_wp2_with fail
  refine (a2 HM2.out rfl (Only.refl _ _)).mono ?_
  rintro e w5 ⟨rfl, hm⟩
  have HM := Lib.hid hm; clear HM2 hm
  go_wp2_with fail
  refine (sumK 1 (by omega) _).mono ?_
  rintro e w6 ⟨rfl, ho⟩
  have HM2 := Lib.hid (HM.out.frame ho); clear HM ho
  go_wp2_with fail
  refine (a3 HM2.out).mono ?_
  rintro e w7 ⟨ad, cb, rfl, had, hm⟩
  have HM := Lib.hid hm; clear HM2 hm
  go_wp2_with fail
  refine (sumK 3 (by omega) _).mono ?_
  rintro e w8 ⟨rfl, ho⟩
  have HM2 := Lib.hid (HM.out.frame ho)
  have had8 := ho.cell had (fun h => h)
  clear HM ho had
  go_wp2_with fail
  have had9 : (w8.alloc (.cells #[.int .u8 99] 5 (1, 2))).cell? ad = some (.int .u8 97) := by rw [World.cell?_alloc_lt _ _ _ (block_lt_of_cell had8)]; exact had8
  refine (a4 HM2.out rfl (Only.refl _ _) had9).mono ?_
  rintro e w9 ⟨rfl, hm, had⟩
  have HM := Lib.hid hm; clear HM2 hm had8 had9
  have hcv : (convert 22 9 (.slice (some ad) 1 cb)).run Try.prog w9.drew = .ok (.string ⟨#[97]⟩) w9.drew :=
    run_convert_bytes_back w9.drew 22 9 5 ad cb [97] under22 under5 (by kernel_rfl) (fun j hj => by simp at hj; subst hj; simpa [Addr.add] using had)
  go_wp2_with fail
  have hmd := HM.out.frame (Only.refl _ _).drew
  replace HM := Lib.hid hmd; clear hmd
  refine wp_region_noPanic ?_
  refine wp_region_held_drew (S := fun _ => True) (by kernel_rfl) trivial (fun hHeld => ?_)
  refine wpAnyH_take (i := 0) (v := ?_) rfl (by kernel_rfl) (by kernel_rfl) (by kernel_rfl) (fun _ _ _ h => h) (Or.inl ⟨by rfl, ?_⟩) (by assumption) ?_
  rotate_left
  · ((intro w hSw); (first | (go_simp; done) | (go_simp; with_reducible rfl)))
  (try simp only [Act.put, List.setIfInBounds_toArray, List.set_cons_zero, List.set_cons_succ, List.getElem_toArray, List.getElem_cons_succ, List.getElem_cons_zero])
  refine wpAnyH_ready (rs := [1]) (by kernel_rfl) (by simp) ?_
  refine AllReadyH.cons rfl (fun K hK => ?_) AllReadyH.nil
  go_simp
  (go_at_call 16; refine HM.out.made.mono ?_; rintro e wm ⟨rfl, rfl⟩)
  (try go_wp2_with fail)
  refine hK.out _ _ trivial (fun hHeld => ?_)
  clear hK K
  (try simp only [Act.put, List.setIfInBounds_toArray, List.set_cons_zero, List.set_cons_succ, List.getElem_toArray, List.getElem_cons_succ, List.getElem_cons_zero])
  refine wpAnyH_take (i := 2) (v := ?_) rfl (by kernel_rfl) (by kernel_rfl) (by kernel_rfl) (fun _ _ _ h => h) (Or.inl ⟨by rfl, ?_⟩) (by assumption) ?_
  rotate_left
  · ((intro w hSw); (first | (go_simp; done) | (go_simp; with_reducible rfl)))
  (try simp only [Act.put, List.setIfInBounds_toArray, List.set_cons_zero, List.set_cons_succ, List.getElem_toArray, List.getElem_cons_succ, List.getElem_cons_zero])
  refine wpAnyH_take (i := 3) (v := ?_) rfl (by kernel_rfl) (by kernel_rfl) (by kernel_rfl) (fun _ _ _ h => h) (Or.inl ⟨by rfl, ?_⟩) (by assumption) ?_
  rotate_left
  · ((intro w hSw); (first | (go_simp; done) | (go_simp; with_reducible rfl)))
  (try simp only [Act.put, List.setIfInBounds_toArray, List.set_cons_zero, List.set_cons_succ, List.getElem_toArray, List.getElem_cons_succ, List.getElem_cons_zero])
  refine wpAnyH_ready (rs := [4]) (by kernel_rfl) (by simp) ?_
  refine AllReadyH.cons rfl (fun K hK => ?_) AllReadyH.nil
  go_simp
  refine hK.out _ _ trivial (fun hHeld => ?_)
  clear hK K
  (try simp only [Act.put, List.setIfInBounds_toArray, List.set_cons_zero, List.set_cons_succ, List.getElem_toArray, List.getElem_cons_succ, List.getElem_cons_zero])
  refine wpAnyH_take (i := 5) (v := ?_) rfl (by kernel_rfl) (by kernel_rfl) (by kernel_rfl) (fun _ _ _ h => h) (Or.inl ⟨by rfl, ?_⟩) (by assumption) ?_
  rotate_left
  · ((intro w hSw); (first | (go_simp; done) | (go_simp; with_reducible rfl)))
  (try simp only [Act.put, List.setIfInBounds_toArray, List.set_cons_zero, List.set_cons_succ, List.getElem_toArray, List.getElem_cons_succ, List.getElem_cons_zero])
  refine wpAnyH_take (i := 6) (v := ?_) rfl (by kernel_rfl) (by kernel_rfl) (by kernel_rfl) (fun _ _ _ h => h) (Or.inl ⟨by rfl, ?_⟩) (by assumption) ?_
  rotate_left
  · ((intro w hSw); (first | (go_simp; done) | (go_simp; with_reducible rfl)))
  (try simp only [Act.put, List.setIfInBounds_toArray, List.set_cons_zero, List.set_cons_succ, List.getElem_toArray, List.getElem_cons_succ, List.getElem_cons_zero])
  refine wpAnyH_take (i := 7) (v := ?_) rfl (by kernel_rfl) (by kernel_rfl) (by kernel_rfl) (fun _ _ _ h => h) (Or.inl ⟨by rfl, ?_⟩) (by assumption) ?_
  rotate_left
  · ((intro w hSw); (first | (go_simp; done) | (go_simp; with_reducible rfl)))
  (try simp only [Act.put, List.setIfInBounds_toArray, List.set_cons_zero, List.set_cons_succ, List.getElem_toArray, List.getElem_cons_succ, List.getElem_cons_zero])
  refine wpAnyH_take (i := 8) (v := ?_) rfl (by kernel_rfl) (by kernel_rfl) (by kernel_rfl) (fun _ _ _ h => h) (Or.inl ⟨by rfl, ?_⟩) (by assumption) ?_
  rotate_left
  · ((intro w hSw); (first | (go_simp; done) | (go_simp; with_reducible rfl)))
  (try simp only [Act.put, List.setIfInBounds_toArray, List.set_cons_zero, List.set_cons_succ, List.getElem_toArray, List.getElem_cons_succ, List.getElem_cons_zero])
  refine wpAnyH_take (i := 9) (v := ?_) rfl (by kernel_rfl) (by kernel_rfl) (by kernel_rfl) (fun _ _ _ h => h) (Or.inl ⟨by rfl, ?_⟩) (by assumption) ?_
  rotate_left
  · ((intro w hSw); (first | (go_simp; done) | (go_simp; with_reducible rfl)))
  (try simp only [Act.put, List.setIfInBounds_toArray, List.set_cons_zero, List.set_cons_succ, List.getElem_toArray, List.getElem_cons_succ, List.getElem_cons_zero])
  refine wpAnyH_take (i := 10) (v := ?_) rfl (by kernel_rfl) (by kernel_rfl) (by kernel_rfl) (fun _ _ _ h => h) (Or.inl ⟨by rfl, ?_⟩) (by assumption) ?_
  rotate_left
  · ((intro w hSw); (first | (go_simp; done) | (go_simp; with_reducible rfl)))
  (try simp only [Act.put, List.setIfInBounds_toArray, List.set_cons_zero, List.set_cons_succ, List.getElem_toArray, List.getElem_cons_succ, List.getElem_cons_zero])
  refine wpAnyH_take (i := 11) (v := ?_) rfl (by kernel_rfl) (by kernel_rfl) (by kernel_rfl) (fun _ _ _ h => h) (Or.inl ⟨by rfl, ?_⟩) (by assumption) ?_
  rotate_left
  · ((intro w hSw); (first | (go_simp; done) | (go_simp; with_reducible rfl)))
  (try simp only [Act.put, List.setIfInBounds_toArray, List.set_cons_zero, List.set_cons_succ, List.getElem_toArray, List.getElem_cons_succ, List.getElem_cons_zero])
  refine wpAnyH_take (i := 12) (v := ?_) rfl (by kernel_rfl) (by kernel_rfl) (by kernel_rfl) (fun _ _ _ h => h) (Or.inl ⟨by rfl, ?_⟩) (by assumption) ?_
  rotate_left
  · ((intro w hSw); (first | (go_simp; done) | (go_simp; with_reducible rfl)))
  (try simp only [Act.put, List.setIfInBounds_toArray, List.set_cons_zero, List.set_cons_succ, List.getElem_toArray, List.getElem_cons_succ, List.getElem_cons_zero])
  refine wpAnyH_take (i := 13) (v := ?_) rfl (by kernel_rfl) (by kernel_rfl) (by kernel_rfl) (fun _ _ _ h => h) (Or.inl ⟨by rfl, ?_⟩) (by assumption) ?_
  rotate_left
  · ((intro w hSw); (first | (go_simp; done) | (go_simp; with_reducible rfl)))
  (try simp only [Act.put, List.setIfInBounds_toArray, List.set_cons_zero, List.set_cons_succ, List.getElem_toArray, List.getElem_cons_succ, List.getElem_cons_zero])
  refine wpAnyH_take (i := 14) (v := ?_) rfl (by kernel_rfl) (by kernel_rfl) (by kernel_rfl) (fun _ _ _ h => h) (Or.inl ⟨by rfl, ?_⟩) (by assumption) ?_
  rotate_left
  · ((intro w hSw); (first | (go_simp; done) | (go_simp; with_reducible rfl)))
  (try simp only [Act.put, List.setIfInBounds_toArray, List.set_cons_zero, List.set_cons_succ, List.getElem_toArray, List.getElem_cons_succ, List.getElem_cons_zero])
  refine wpAnyH_take (i := 15) (v := ?_) rfl (by kernel_rfl) (by kernel_rfl) (by kernel_rfl) (fun _ _ _ h => h) (Or.inl ⟨by rfl, ?_⟩) (by assumption) ?_
  rotate_left
  · ((intro w hSw); (first | (go_simp; done) | (go_simp; with_reducible rfl)))
  (try simp only [Act.put, List.setIfInBounds_toArray, List.set_cons_zero, List.set_cons_succ, List.getElem_toArray, List.getElem_cons_succ, List.getElem_cons_zero])
  refine wpAnyH_take (i := 16) (v := ?_) rfl (by kernel_rfl) (by kernel_rfl) (by kernel_rfl) (fun _ _ _ h => h) (Or.inl ⟨by rfl, ?_⟩) (by assumption) ?_
  rotate_left
  · ((intro w hSw); (first | (go_simp; done) | (go_simp; with_reducible rfl)))
  (try simp only [Act.put, List.setIfInBounds_toArray, List.set_cons_zero, List.set_cons_succ, List.getElem_toArray, List.getElem_cons_succ, List.getElem_cons_zero])
  refine wpAnyH_ready (rs := [17]) (by kernel_rfl) (by simp) ?_
  refine AllReadyH.cons rfl (fun K hK => ?_) AllReadyH.nil
  go_simp
  (go_at_call 24; refine (l13 HM.out).mono ?_; rintro e wm ⟨vl, rfl, hky, hm⟩; have HK := Lib.hid hky; replace HM := Lib.hid hm; clear hky hm)
  (try go_wp2_with fail)
  refine hK.out _ _ trivial (fun hHeld => ?_)
  clear hK K
  (try simp only [Act.put, List.setIfInBounds_toArray, List.set_cons_zero, List.set_cons_succ, List.getElem_toArray, List.getElem_cons_succ, List.getElem_cons_zero])
  refine wpAnyH_ready (rs := [18]) (by kernel_rfl) (by simp) ?_
  refine AllReadyH.cons rfl (fun K hK => ?_) AllReadyH.nil
  go_simp
  (go_at_call 14; refine (s1 _).mono ?_; rintro e wm ⟨rfl, ho⟩; (first | replace HM := Lib.hid (HM.out.frame ho) | have HOS := Lib.hid ho); (try have hcv2 := conv_late HOS.out 1 1); (try replace HK := Lib.hid (HK.out.frame ho)); clear ho)
  (try go_wp2_with fail)
  refine hK.out _ _ trivial (fun hHeld => ?_)
  clear hK K
  (try simp only [Act.put, List.setIfInBounds_toArray, List.set_cons_zero, List.set_cons_succ, List.getElem_toArray, List.getElem_cons_succ, List.getElem_cons_zero])
  refine wpAnyH_ready (rs := [19]) (by kernel_rfl) (by simp) ?_
  refine AllReadyH.cons rfl (fun K hK => ?_) AllReadyH.nil
  go_simp
  (go_at_call 14; refine (s3 _).mono ?_; rintro e wm ⟨rfl, ho⟩; (first | replace HM := Lib.hid (HM.out.frame ho) | have HOS := Lib.hid ho); (try have hcv2 := conv_late HOS.out 1 1); (try replace HK := Lib.hid (HK.out.frame ho)); clear ho)
  (try go_wp2_with fail)
  refine hK.out _ _ trivial (fun hHeld => ?_)
  clear hK K
  (try simp only [Act.put, List.setIfInBounds_toArray, List.set_cons_zero, List.set_cons_succ, List.getElem_toArray, List.getElem_cons_succ, List.getElem_cons_zero])
  refine wpAnyH_ready (rs := [20]) (by kernel_rfl) (by simp) ?_
  refine AllReadyH.cons rfl (fun K hK => ?_) AllReadyH.nil
  go_simp
  refine hK.out _ _ trivial (fun hHeld => ?_)
  clear hK K
  (try simp only [Act.put, List.setIfInBounds_toArray, List.set_cons_zero, List.set_cons_succ, List.getElem_toArray, List.getElem_cons_succ, List.getElem_cons_zero])
  refine wpAnyH_ready (rs := [21]) (by kernel_rfl) (by simp) ?_
  refine AllReadyH.cons rfl (fun K hK => ?_) AllReadyH.nil
  go_simp
  (go_at_call 38; refine (eq13 HK.out).mono ?_; rintro e wm ⟨rfl, ho⟩; replace HM := Lib.hid (HM.out.frame ho); clear HK ho)
  (try go_wp2_with fail)
  refine hK.out _ _ trivial (fun hHeld => ?_)
  clear hK K
  (try simp only [Act.put, List.setIfInBounds_toArray, List.set_cons_zero, List.set_cons_succ, List.getElem_toArray, List.getElem_cons_succ, List.getElem_cons_zero])
  refine wpAnyH_take (i := 22) (v := ?_) rfl (by kernel_rfl) (by kernel_rfl) (by kernel_rfl) (fun _ _ _ h => h) (Or.inl ⟨by rfl, ?_⟩) (by assumption) ?_
  rotate_left
  · ((intro w hSw); (first | (go_simp; done) | (go_simp; with_reducible rfl)))
  (try simp only [Act.put, List.setIfInBounds_toArray, List.set_cons_zero, List.set_cons_succ, List.getElem_toArray, List.getElem_cons_succ, List.getElem_cons_zero])
  refine wpAnyH_take (i := 23) (v := ?_) rfl (by kernel_rfl) (by kernel_rfl) (by kernel_rfl) (fun _ _ _ h => h) (Or.inl ⟨by rfl, ?_⟩) (by assumption) ?_
  rotate_left
  · ((intro w hSw); (first | (go_simp; done) | (go_simp; with_reducible rfl)))
  (try simp only [Act.put, List.setIfInBounds_toArray, List.set_cons_zero, List.set_cons_succ, List.getElem_toArray, List.getElem_cons_succ, List.getElem_cons_zero])
  refine wpAnyH_take (i := 24) (v := ?_) rfl (by kernel_rfl) (by kernel_rfl) (by kernel_rfl) (fun _ _ _ h => h) (Or.inl ⟨by rfl, ?_⟩) (by assumption) ?_
  rotate_left
  · ((intro w hSw); (first | (go_simp; done) | (go_simp; with_reducible rfl)))
  (try simp only [Act.put, List.setIfInBounds_toArray, List.set_cons_zero, List.set_cons_succ, List.getElem_toArray, List.getElem_cons_succ, List.getElem_cons_zero])
  refine wpAnyH_ready (rs := [25]) (by kernel_rfl) (by simp) ?_
  refine AllReadyH.cons rfl (fun K hK => ?_) AllReadyH.nil
  go_simp
  (go_at_call 14; refine (s1 _).mono ?_; rintro e wm ⟨rfl, ho⟩; (first | replace HM := Lib.hid (HM.out.frame ho) | have HOS := Lib.hid ho); (try have hcv2 := conv_late HOS.out 1 1); (try replace HK := Lib.hid (HK.out.frame ho)); clear ho)
  (try go_wp2_with fail)
  refine hK.out _ _ trivial (fun hHeld => ?_)
  clear hK K
  (try simp only [Act.put, List.setIfInBounds_toArray, List.set_cons_zero, List.set_cons_succ, List.getElem_toArray, List.getElem_cons_succ, List.getElem_cons_zero])
  refine wpAnyH_ready (rs := [26]) (by kernel_rfl) (by simp) ?_
  refine AllReadyH.cons rfl (fun K hK => ?_) AllReadyH.nil
  go_simp
  (go_at_call 18; refine (a5 HM.out (by omega)).mono ?_; rintro e wm ⟨rfl, hm⟩; replace HM := Lib.hid hm; clear hm)
  (try go_wp2_with fail)
  refine hK.out _ _ trivial (fun hHeld => ?_)
  clear hK K
  (try simp only [Act.put, List.setIfInBounds_toArray, List.set_cons_zero, List.set_cons_succ, List.getElem_toArray, List.getElem_cons_succ, List.getElem_cons_zero])
  refine wpAnyH_take (i := 27) (v := ?_) rfl (by kernel_rfl) (by kernel_rfl) (by kernel_rfl) (fun _ _ _ h => h) (Or.inl ⟨by rfl, ?_⟩) (by assumption) ?_
  rotate_left
  · ((intro w hSw); (first | (go_simp; done) | (go_simp; with_reducible rfl)))
  (try simp only [Act.put, List.setIfInBounds_toArray, List.set_cons_zero, List.set_cons_succ, List.getElem_toArray, List.getElem_cons_succ, List.getElem_cons_zero])
  refine wpAnyH_take (i := 28) (v := ?_) rfl (by kernel_rfl) (by kernel_rfl) (by kernel_rfl) (fun _ _ _ h => h) (Or.inl ⟨by rfl, ?_⟩) (by assumption) ?_
  rotate_left
  · ((intro w hSw); (first | (go_simp; done) | (go_simp; with_reducible rfl)))
  (try simp only [Act.put, List.setIfInBounds_toArray, List.set_cons_zero, List.set_cons_succ, List.getElem_toArray, List.getElem_cons_succ, List.getElem_cons_zero])
  refine wpAnyH_take (i := 29) (v := ?_) rfl (by kernel_rfl) (by kernel_rfl) (by kernel_rfl) (fun _ _ _ h => h) (Or.inl ⟨by rfl, ?_⟩) (by assumption) ?_
  rotate_left
  · ((intro w hSw); (first | (go_simp; done) | (go_simp; with_reducible rfl)))
  (try simp only [Act.put, List.setIfInBounds_toArray, List.set_cons_zero, List.set_cons_succ, List.getElem_toArray, List.getElem_cons_succ, List.getElem_cons_zero])
  refine wpAnyH_take (i := 30) (v := ?_) rfl (by kernel_rfl) (by kernel_rfl) (by kernel_rfl) (fun _ _ _ h => h) (Or.inl ⟨by rfl, ?_⟩) (by assumption) ?_
  rotate_left
  · ((intro w hSw); (first | (go_simp; done) | (go_simp; with_reducible rfl)))
  (try simp only [Act.put, List.setIfInBounds_toArray, List.set_cons_zero, List.set_cons_succ, List.getElem_toArray, List.getElem_cons_succ, List.getElem_cons_zero])
  refine wpAnyH_ready (rs := [31, 32]) (by kernel_rfl) (by simp) ?_
  refine AllReadyH.cons rfl (fun K hK => ?_) (AllReadyH.cons rfl (fun K hK => ?_) AllReadyH.nil)
  · go_simp
    (go_at_call 14; refine (s4 _).mono ?_; rintro e wm ⟨rfl, ho⟩; (first | replace HM := Lib.hid (HM.out.frame ho) | have HOS := Lib.hid ho); (try have hcv2 := conv_late HOS.out 1 1); (try replace HK := Lib.hid (HK.out.frame ho)); clear ho)
    (try go_wp2_with fail)
    refine hK.out _ _ trivial (fun hHeld => ?_)
    clear hK K
    (try simp only [Act.put, List.setIfInBounds_toArray, List.set_cons_zero, List.set_cons_succ, List.getElem_toArray, List.getElem_cons_succ, List.getElem_cons_zero])
    refine wpAnyH_ready (rs := [32]) (by kernel_rfl) (by simp) ?_
    refine AllReadyH.cons rfl (fun K hK => ?_) AllReadyH.nil
    go_simp
    refine hK.out _ _ trivial (fun hHeld => ?_)
    clear hK K
    (try simp only [Act.put, List.setIfInBounds_toArray, List.set_cons_zero, List.set_cons_succ, List.getElem_toArray, List.getElem_cons_succ, List.getElem_cons_zero])
    refine wpAnyH_ready (rs := [33]) (by kernel_rfl) (by simp) ?_
    refine AllReadyH.cons rfl (fun K hK => ?_) AllReadyH.nil
    go_simp
    refine hK.out _ _ trivial (fun hHeld => ?_)
    clear hK K
    (try simp only [Act.put, List.setIfInBounds_toArray, List.set_cons_zero, List.set_cons_succ, List.getElem_toArray, List.getElem_cons_succ, List.getElem_cons_zero])
    refine wpAnyH_ready (rs := [34]) (by kernel_rfl) (by simp) ?_
    refine AllReadyH.cons rfl (fun K hK => ?_) AllReadyH.nil
    go_simp
    (go_at_call 17; (with_reducible (first | refine (a6 HM.out rfl (Only.refl _ _)).mono ?_ | refine (a6 HM.out rfl HOS.out).mono ?_ | refine (a6l HM.out HOS.out).mono ?_)); rintro e wm ⟨rfl, hm⟩; replace HM := Lib.hid hm; (try clear hcv2); (try clear HOS); clear hm)
    (try go_wp2_with fail)
    refine hK.out _ _ trivial (fun hHeld => ?_)
    clear hK K
    (try simp only [Act.put, List.setIfInBounds_toArray, List.set_cons_zero, List.set_cons_succ, List.getElem_toArray, List.getElem_cons_succ, List.getElem_cons_zero])
    refine wpAnyH_take (i := 35) (v := ?_) rfl (by kernel_rfl) (by kernel_rfl) (by kernel_rfl) (fun _ _ _ h => h) (Or.inl ⟨by rfl, ?_⟩) (by assumption) ?_
    rotate_left
    · ((intro w hSw); (first | (go_simp; done) | (go_simp; with_reducible rfl)))
    (try simp only [Act.put, List.setIfInBounds_toArray, List.set_cons_zero, List.set_cons_succ, List.getElem_toArray, List.getElem_cons_succ, List.getElem_cons_zero])
    refine wpAnyH_take (i := 36) (v := ?_) rfl (by kernel_rfl) (by kernel_rfl) (by kernel_rfl) (fun _ _ _ h => h) (Or.inl ⟨by rfl, ?_⟩) (by assumption) ?_
    rotate_left
    · ((intro w hSw); (first | (go_simp; done) | (go_simp; with_reducible rfl)))
    (try simp only [Act.put, List.setIfInBounds_toArray, List.set_cons_zero, List.set_cons_succ, List.getElem_toArray, List.getElem_cons_succ, List.getElem_cons_zero])
    refine wpAnyH_take (i := 37) (v := ?_) rfl (by kernel_rfl) (by kernel_rfl) (by kernel_rfl) (fun _ _ _ h => h) (Or.inl ⟨by rfl, ?_⟩) (by assumption) ?_
    rotate_left
    · ((intro w hSw); (first | (go_simp; done) | (go_simp; with_reducible rfl)))
    (try simp only [Act.put, List.setIfInBounds_toArray, List.set_cons_zero, List.set_cons_succ, List.getElem_toArray, List.getElem_cons_succ, List.getElem_cons_zero])
    refine wpAnyH_take (i := 38) (v := ?_) rfl (by kernel_rfl) (by kernel_rfl) (by kernel_rfl) (fun _ _ _ h => h) (Or.inl ⟨by rfl, ?_⟩) (by assumption) ?_
    rotate_left
    · ((intro w hSw); (first | (go_simp; done) | (go_simp; with_reducible rfl)))
    (try simp only [Act.put, List.setIfInBounds_toArray, List.set_cons_zero, List.set_cons_succ, List.getElem_toArray, List.getElem_cons_succ, List.getElem_cons_zero])
    refine wpAnyH_ready (rs := [39]) (by kernel_rfl) (by simp) ?_
    refine AllReadyH.cons rfl (fun K hK => ?_) AllReadyH.nil
    go_simp
    (go_at_call 14; refine (s1 _).mono ?_; rintro e wm ⟨rfl, ho⟩; (first | replace HM := Lib.hid (HM.out.frame ho) | have HOS := Lib.hid ho); (try have hcv2 := conv_late HOS.out 1 1); (try replace HK := Lib.hid (HK.out.frame ho)); clear ho)
    (try go_wp2_with fail)
    refine hK.out _ _ trivial (fun hHeld => ?_)
    clear hK K
    (try simp only [Act.put, List.setIfInBounds_toArray, List.set_cons_zero, List.set_cons_succ, List.getElem_toArray, List.getElem_cons_succ, List.getElem_cons_zero])
    refine wpAnyH_ready (rs := [40]) (by kernel_rfl) (by simp) ?_
    refine AllReadyH.cons rfl (fun K hK => ?_) AllReadyH.nil
    go_simp
    (go_at_call 21; refine (a7 HM.out).mono ?_; rintro e wm ⟨rfl, ho⟩; replace HM := Lib.hid (HM.out.frame ho); clear ho)
    (try go_wp2_with fail)
    refine hK.out _ _ trivial (fun hHeld => ?_)
    clear hK K
    (try simp only [Act.put, List.setIfInBounds_toArray, List.set_cons_zero, List.set_cons_succ, List.getElem_toArray, List.getElem_cons_succ, List.getElem_cons_zero])
    refine wpAnyH_take (i := 41) (v := ?_) rfl (by kernel_rfl) (by kernel_rfl) (by kernel_rfl) (fun _ _ _ h => h) (Or.inl ⟨by rfl, ?_⟩) (by assumption) ?_
    rotate_left
    · ((intro w hSw); (first | (go_simp; done) | (go_simp; with_reducible rfl)))
    (try simp only [Act.put, List.setIfInBounds_toArray, List.set_cons_zero, List.set_cons_succ, List.getElem_toArray, List.getElem_cons_succ, List.getElem_cons_zero])
    refine wpAnyH_take (i := 42) (v := ?_) rfl (by kernel_rfl) (by kernel_rfl) (by kernel_rfl) (fun _ _ _ h => h) (Or.inl ⟨by rfl, ?_⟩) (by assumption) ?_
    rotate_left
    · ((intro w hSw); (first | (go_simp; done) | (go_simp; with_reducible rfl)))
    (try simp only [Act.put, List.setIfInBounds_toArray, List.set_cons_zero, List.set_cons_succ, List.getElem_toArray, List.getElem_cons_succ, List.getElem_cons_zero])
    refine wpAnyH_take (i := 43) (v := ?_) rfl (by kernel_rfl) (by kernel_rfl) (by kernel_rfl) (fun _ _ _ h => h) (Or.inl ⟨by rfl, ?_⟩) (by assumption) ?_
    rotate_left
    · ((intro w hSw); (first | (go_simp; done) | (go_simp; with_reducible rfl)))
    (try simp only [Act.put, List.setIfInBounds_toArray, List.set_cons_zero, List.set_cons_succ, List.getElem_toArray, List.getElem_cons_succ, List.getElem_cons_zero])
    refine wpAnyH_ready (rs := [44]) (by kernel_rfl) (by simp) ?_
    refine AllReadyH.cons rfl (fun K hK => ?_) AllReadyH.nil
    go_simp
    (go_at_call 14; refine (s3 _).mono ?_; rintro e wm ⟨rfl, ho⟩; (first | replace HM := Lib.hid (HM.out.frame ho) | have HOS := Lib.hid ho); (try have hcv2 := conv_late HOS.out 1 1); (try replace HK := Lib.hid (HK.out.frame ho)); clear ho)
    (try go_wp2_with fail)
    refine hK.out _ _ trivial (fun hHeld => ?_)
    clear hK K
    (try simp only [Act.put, List.setIfInBounds_toArray, List.set_cons_zero, List.set_cons_succ, List.getElem_toArray, List.getElem_cons_succ, List.getElem_cons_zero])
    refine wpAnyH_ready (rs := [45]) (by kernel_rfl) (by simp) ?_
    refine AllReadyH.cons rfl (fun K hK => ?_) AllReadyH.nil
    go_simp
    (go_at_call 21; refine (a8 HM.out).mono ?_; rintro e wm ⟨rfl, ho⟩; replace HM := Lib.hid (HM.out.frame ho); clear ho)
    (try go_wp2_with fail)
    refine hK.out _ _ trivial (fun hHeld => ?_)
    clear hK K
    (try simp only [Act.put, List.setIfInBounds_toArray, List.set_cons_zero, List.set_cons_succ, List.getElem_toArray, List.getElem_cons_succ, List.getElem_cons_zero])
    refine wpAnyH_take (i := 46) (v := ?_) rfl (by kernel_rfl) (by kernel_rfl) (by kernel_rfl) (fun _ _ _ h => h) (Or.inl ⟨by rfl, ?_⟩) (by assumption) ?_
    rotate_left
    · ((intro w hSw); (first | (go_simp; done) | (go_simp; with_reducible rfl)))
    (try simp only [Act.put, List.setIfInBounds_toArray, List.set_cons_zero, List.set_cons_succ, List.getElem_toArray, List.getElem_cons_succ, List.getElem_cons_zero])
    refine wpAnyH_take (i := 47) (v := ?_) rfl (by kernel_rfl) (by kernel_rfl) (by kernel_rfl) (fun _ _ _ h => h) (Or.inl ⟨by rfl, ?_⟩) (by assumption) ?_
    rotate_left
    · ((intro w hSw); (first | (go_simp; done) | (go_simp; with_reducible rfl)))
    (try simp only [Act.put, List.setIfInBounds_toArray, List.set_cons_zero, List.set_cons_succ, List.getElem_toArray, List.getElem_cons_succ, List.getElem_cons_zero])
    refine wpAnyH_take (i := 48) (v := ?_) rfl (by kernel_rfl) (by kernel_rfl) (by kernel_rfl) (fun _ _ _ h => h) (Or.inl ⟨by rfl, ?_⟩) (by assumption) ?_
    rotate_left
    · ((intro w hSw); (first | (go_simp; done) | (go_simp; with_reducible rfl)))
    (try simp only [Act.put, List.setIfInBounds_toArray, List.set_cons_zero, List.set_cons_succ, List.getElem_toArray, List.getElem_cons_succ, List.getElem_cons_zero])
    refine wpAnyH_take (i := 49) (v := ?_) rfl (by kernel_rfl) (by kernel_rfl) (by kernel_rfl) (fun _ _ _ h => h) (Or.inl ⟨by rfl, ?_⟩) (by assumption) ?_
    rotate_left
    · ((intro w hSw); (first | (go_simp; done) | (go_simp; with_reducible rfl)))
    (try simp only [Act.put, List.setIfInBounds_toArray, List.set_cons_zero, List.set_cons_succ, List.getElem_toArray, List.getElem_cons_succ, List.getElem_cons_zero])
    refine wpAnyH_ready (rs := [50, 51]) (by kernel_rfl) (by simp) ?_
    refine AllReadyH.cons rfl (fun K hK => ?_) (AllReadyH.cons rfl (fun K hK => ?_) AllReadyH.nil)
    · go_simp
      (go_at_call 14; refine (s5 _).mono ?_; rintro e wm ⟨rfl, ho⟩; (first | replace HM := Lib.hid (HM.out.frame ho) | have HOS := Lib.hid ho); (try have hcv2 := conv_late HOS.out 1 1); (try replace HK := Lib.hid (HK.out.frame ho)); clear ho)
      (try go_wp2_with fail)
      refine hK.out _ _ trivial (fun hHeld => ?_)
      clear hK K
      (try simp only [Act.put, List.setIfInBounds_toArray, List.set_cons_zero, List.set_cons_succ, List.getElem_toArray, List.getElem_cons_succ, List.getElem_cons_zero])
      refine wpAnyH_ready (rs := [51]) (by kernel_rfl) (by simp) ?_
      refine AllReadyH.cons rfl (fun K hK => ?_) AllReadyH.nil
      go_simp
      refine hK.out _ _ trivial (fun hHeld => ?_)
      clear hK K
      (try simp only [Act.put, List.setIfInBounds_toArray, List.set_cons_zero, List.set_cons_succ, List.getElem_toArray, List.getElem_cons_succ, List.getElem_cons_zero])
      refine wpAnyH_ready (rs := [52]) (by kernel_rfl) (by simp) ?_
      refine AllReadyH.cons rfl (fun K hK => ?_) AllReadyH.nil
      go_simp
      (go_at_call 17; (with_reducible (first | refine (a9 HM.out rfl (Only.refl _ _)).mono ?_ | refine (a9 HM.out rfl HOS.out).mono ?_)); rintro e wm ⟨rfl, hm⟩; replace HM := Lib.hid hm; (try clear hcv2); (try clear HOS); clear hm)
      (try go_wp2_with fail)
      refine hK.out _ _ trivial (fun hHeld => ?_)
      clear hK K
      (try simp only [Act.put, List.setIfInBounds_toArray, List.set_cons_zero, List.set_cons_succ, List.getElem_toArray, List.getElem_cons_succ, List.getElem_cons_zero])
      refine wpAnyH_take (i := 53) (v := ?_) rfl (by kernel_rfl) (by kernel_rfl) (by kernel_rfl) (fun _ _ _ h => h) (Or.inl ⟨by rfl, ?_⟩) (by assumption) ?_
      rotate_left
      · ((intro w hSw); (first | (go_simp; done) | (go_simp; with_reducible rfl)))
      (try simp only [Act.put, List.setIfInBounds_toArray, List.set_cons_zero, List.set_cons_succ, List.getElem_toArray, List.getElem_cons_succ, List.getElem_cons_zero])
      refine wpAnyH_take (i := 54) (v := ?_) rfl (by kernel_rfl) (by kernel_rfl) (by kernel_rfl) (fun _ _ _ h => h) (Or.inl ⟨by rfl, ?_⟩) (by assumption) ?_
      rotate_left
      · ((intro w hSw); (first | (go_simp; done) | (go_simp; with_reducible rfl)))
      (try simp only [Act.put, List.setIfInBounds_toArray, List.set_cons_zero, List.set_cons_succ, List.getElem_toArray, List.getElem_cons_succ, List.getElem_cons_zero])
      refine wpAnyH_take (i := 55) (v := ?_) rfl (by kernel_rfl) (by kernel_rfl) (by kernel_rfl) (fun _ _ _ h => h) (Or.inl ⟨by rfl, ?_⟩) (by assumption) ?_
      rotate_left
      · ((intro w hSw); (first | (go_simp; done) | (go_simp; with_reducible rfl)))
      (try simp only [Act.put, List.setIfInBounds_toArray, List.set_cons_zero, List.set_cons_succ, List.getElem_toArray, List.getElem_cons_succ, List.getElem_cons_zero])
      refine wpAnyH_done (by kernel_rfl) ?_ _
      refine NoPanic.normal ?_
      go_wp2
      go_ret
      exact ⟨rfl, HM.out.only⟩
    · go_simp
      refine hK.out _ _ trivial (fun hHeld => ?_)
      clear hK K
      (try simp only [Act.put, List.setIfInBounds_toArray, List.set_cons_zero, List.set_cons_succ, List.getElem_toArray, List.getElem_cons_succ, List.getElem_cons_zero])
      refine wpAnyH_ready (rs := [50]) (by kernel_rfl) (by simp) ?_
      refine AllReadyH.cons rfl (fun K hK => ?_) AllReadyH.nil
      go_simp
      (go_at_call 14; refine (s5 _).mono ?_; rintro e wm ⟨rfl, ho⟩; (first | replace HM := Lib.hid (HM.out.frame ho) | have HOS := Lib.hid ho); (try have hcv2 := conv_late HOS.out 1 1); (try replace HK := Lib.hid (HK.out.frame ho)); clear ho)
      (try go_wp2_with fail)
      refine hK.out _ _ trivial (fun hHeld => ?_)
      clear hK K
      (try simp only [Act.put, List.setIfInBounds_toArray, List.set_cons_zero, List.set_cons_succ, List.getElem_toArray, List.getElem_cons_succ, List.getElem_cons_zero])
      refine wpAnyH_ready (rs := [52]) (by kernel_rfl) (by simp) ?_
      refine AllReadyH.cons rfl (fun K hK => ?_) AllReadyH.nil
      go_simp
      (go_at_call 17; (with_reducible (first | refine (a9 HM.out rfl (Only.refl _ _)).mono ?_ | refine (a9 HM.out rfl HOS.out).mono ?_)); rintro e wm ⟨rfl, hm⟩; replace HM := Lib.hid hm; (try clear hcv2); (try clear HOS); clear hm)
      (try go_wp2_with fail)
      refine hK.out _ _ trivial (fun hHeld => ?_)
      clear hK K
      (try simp only [Act.put, List.setIfInBounds_toArray, List.set_cons_zero, List.set_cons_succ, List.getElem_toArray, List.getElem_cons_succ, List.getElem_cons_zero])
      refine wpAnyH_take (i := 53) (v := ?_) rfl (by kernel_rfl) (by kernel_rfl) (by kernel_rfl) (fun _ _ _ h => h) (Or.inl ⟨by rfl, ?_⟩) (by assumption) ?_
      rotate_left
      · ((intro w hSw); (first | (go_simp; done) | (go_simp; with_reducible rfl)))
      (try simp only [Act.put, List.setIfInBounds_toArray, List.set_cons_zero, List.set_cons_succ, List.getElem_toArray, List.getElem_cons_succ, List.getElem_cons_zero])
      refine wpAnyH_take (i := 54) (v := ?_) rfl (by kernel_rfl) (by kernel_rfl) (by kernel_rfl) (fun _ _ _ h => h) (Or.inl ⟨by rfl, ?_⟩) (by assumption) ?_
      rotate_left
      · ((intro w hSw); (first | (go_simp; done) | (go_simp; with_reducible rfl)))
      (try simp only [Act.put, List.setIfInBounds_toArray, List.set_cons_zero, List.set_cons_succ, List.getElem_toArray, List.getElem_cons_succ, List.getElem_cons_zero])
      refine wpAnyH_take (i := 55) (v := ?_) rfl (by kernel_rfl) (by kernel_rfl) (by kernel_rfl) (fun _ _ _ h => h) (Or.inl ⟨by rfl, ?_⟩) (by assumption) ?_
      rotate_left
      · ((intro w hSw); (first | (go_simp; done) | (go_simp; with_reducible rfl)))
      (try simp only [Act.put, List.setIfInBounds_toArray, List.set_cons_zero, List.set_cons_succ, List.getElem_toArray, List.getElem_cons_succ, List.getElem_cons_zero])
      refine wpAnyH_done (by kernel_rfl) ?_ _
      refine NoPanic.normal ?_
      go_wp2
      go_ret
      exact ⟨rfl, HM.out.only⟩
  · go_simp
    refine hK.out _ _ trivial (fun hHeld => ?_)
    clear hK K
    (try simp only [Act.put, List.setIfInBounds_toArray, List.set_cons_zero, List.set_cons_succ, List.getElem_toArray, List.getElem_cons_succ, List.getElem_cons_zero])
    refine wpAnyH_ready (rs := [31, 33]) (by kernel_rfl) (by simp) ?_
    refine AllReadyH.cons rfl (fun K hK => ?_) (AllReadyH.cons rfl (fun K hK => ?_) AllReadyH.nil)
    · go_simp
      (go_at_call 14; refine (s4 _).mono ?_; rintro e wm ⟨rfl, ho⟩; (first | replace HM := Lib.hid (HM.out.frame ho) | have HOS := Lib.hid ho); (try have hcv2 := conv_late HOS.out 1 1); (try replace HK := Lib.hid (HK.out.frame ho)); clear ho)
      (try go_wp2_with fail)
      refine hK.out _ _ trivial (fun hHeld => ?_)
      clear hK K
      (try simp only [Act.put, List.setIfInBounds_toArray, List.set_cons_zero, List.set_cons_succ, List.getElem_toArray, List.getElem_cons_succ, List.getElem_cons_zero])
      refine wpAnyH_ready (rs := [33]) (by kernel_rfl) (by simp) ?_
      refine AllReadyH.cons rfl (fun K hK => ?_) AllReadyH.nil
      go_simp
      refine hK.out _ _ trivial (fun hHeld => ?_)
      clear hK K
      (try simp only [Act.put, List.setIfInBounds_toArray, List.set_cons_zero, List.set_cons_succ, List.getElem_toArray, List.getElem_cons_succ, List.getElem_cons_zero])
      refine wpAnyH_ready (rs := [34]) (by kernel_rfl) (by simp) ?_
      refine AllReadyH.cons rfl (fun K hK => ?_) AllReadyH.nil
      go_simp
      (go_at_call 17; (with_reducible (first | refine (a6 HM.out rfl (Only.refl _ _)).mono ?_ | refine (a6 HM.out rfl HOS.out).mono ?_ | refine (a6l HM.out HOS.out).mono ?_)); rintro e wm ⟨rfl, hm⟩; replace HM := Lib.hid hm; (try clear hcv2); (try clear HOS); clear hm)
      (try go_wp2_with fail)
      refine hK.out _ _ trivial (fun hHeld => ?_)
      clear hK K
      (try simp only [Act.put, List.setIfInBounds_toArray, List.set_cons_zero, List.set_cons_succ, List.getElem_toArray, List.getElem_cons_succ, List.getElem_cons_zero])
      refine wpAnyH_take (i := 35) (v := ?_) rfl (by kernel_rfl) (by kernel_rfl) (by kernel_rfl) (fun _ _ _ h => h) (Or.inl ⟨by rfl, ?_⟩) (by assumption) ?_
      rotate_left
      · ((intro w hSw); (first | (go_simp; done) | (go_simp; with_reducible rfl)))
      (try simp only [Act.put, List.setIfInBounds_toArray, List.set_cons_zero, List.set_cons_succ, List.getElem_toArray, List.getElem_cons_succ, List.getElem_cons_zero])
      refine wpAnyH_take (i := 36) (v := ?_) rfl (by kernel_rfl) (by kernel_rfl) (by kernel_rfl) (fun _ _ _ h => h) (Or.inl ⟨by rfl, ?_⟩) (by assumption) ?_
      rotate_left
      · ((intro w hSw); (first | (go_simp; done) | (go_simp; with_reducible rfl)))
      (try simp only [Act.put, List.setIfInBounds_toArray, List.set_cons_zero, List.set_cons_succ, List.getElem_toArray, List.getElem_cons_succ, List.getElem_cons_zero])
      refine wpAnyH_take (i := 37) (v := ?_) rfl (by kernel_rfl) (by kernel_rfl) (by kernel_rfl) (fun _ _ _ h => h) (Or.inl ⟨by rfl, ?_⟩) (by assumption) ?_
      rotate_left
      · ((intro w hSw); (first | (go_simp; done) | (go_simp; with_reducible rfl)))
      (try simp only [Act.put, List.setIfInBounds_toArray, List.set_cons_zero, List.set_cons_succ, List.getElem_toArray, List.getElem_cons_succ, List.getElem_cons_zero])
      refine wpAnyH_take (i := 38) (v := ?_) rfl (by kernel_rfl) (by kernel_rfl) (by kernel_rfl) (fun _ _ _ h => h) (Or.inl ⟨by rfl, ?_⟩) (by assumption) ?_
      rotate_left
      · ((intro w hSw); (first | (go_simp; done) | (go_simp; with_reducible rfl)))
      (try simp only [Act.put, List.setIfInBounds_toArray, List.set_cons_zero, List.set_cons_succ, List.getElem_toArray, List.getElem_cons_succ, List.getElem_cons_zero])
      refine wpAnyH_ready (rs := [39]) (by kernel_rfl) (by simp) ?_
      refine AllReadyH.cons rfl (fun K hK => ?_) AllReadyH.nil
      go_simp
      (go_at_call 14; refine (s1 _).mono ?_; rintro e wm ⟨rfl, ho⟩; (first | replace HM := Lib.hid (HM.out.frame ho) | have HOS := Lib.hid ho); (try have hcv2 := conv_late HOS.out 1 1); (try replace HK := Lib.hid (HK.out.frame ho)); clear ho)
      (try go_wp2_with fail)
      refine hK.out _ _ trivial (fun hHeld => ?_)
      clear hK K
      (try simp only [Act.put, List.setIfInBounds_toArray, List.set_cons_zero, List.set_cons_succ, List.getElem_toArray, List.getElem_cons_succ, List.getElem_cons_zero])
      refine wpAnyH_ready (rs := [40]) (by kernel_rfl) (by simp) ?_
      refine AllReadyH.cons rfl (fun K hK => ?_) AllReadyH.nil
      go_simp
      (go_at_call 21; refine (a7 HM.out).mono ?_; rintro e wm ⟨rfl, ho⟩; replace HM := Lib.hid (HM.out.frame ho); clear ho)
      (try go_wp2_with fail)
      refine hK.out _ _ trivial (fun hHeld => ?_)
      clear hK K
      (try simp only [Act.put, List.setIfInBounds_toArray, List.set_cons_zero, List.set_cons_succ, List.getElem_toArray, List.getElem_cons_succ, List.getElem_cons_zero])
      refine wpAnyH_take (i := 41) (v := ?_) rfl (by kernel_rfl) (by kernel_rfl) (by kernel_rfl) (fun _ _ _ h => h) (Or.inl ⟨by rfl, ?_⟩) (by assumption) ?_
      rotate_left
      · ((intro w hSw); (first | (go_simp; done) | (go_simp; with_reducible rfl)))
      (try simp only [Act.put, List.setIfInBounds_toArray, List.set_cons_zero, List.set_cons_succ, List.getElem_toArray, List.getElem_cons_succ, List.getElem_cons_zero])
      refine wpAnyH_take (i := 42) (v := ?_) rfl (by kernel_rfl) (by kernel_rfl) (by kernel_rfl) (fun _ _ _ h => h) (Or.inl ⟨by rfl, ?_⟩) (by assumption) ?_
      rotate_left
      · ((intro w hSw); (first | (go_simp; done) | (go_simp; with_reducible rfl)))
      (try simp only [Act.put, List.setIfInBounds_toArray, List.set_cons_zero, List.set_cons_succ, List.getElem_toArray, List.getElem_cons_succ, List.getElem_cons_zero])
      refine wpAnyH_take (i := 43) (v := ?_) rfl (by kernel_rfl) (by kernel_rfl) (by kernel_rfl) (fun _ _ _ h => h) (Or.inl ⟨by rfl, ?_⟩) (by assumption) ?_
      rotate_left
      · ((intro w hSw); (first | (go_simp; done) | (go_simp; with_reducible rfl)))
      (try simp only [Act.put, List.setIfInBounds_toArray, List.set_cons_zero, List.set_cons_succ, List.getElem_toArray, List.getElem_cons_succ, List.getElem_cons_zero])
      refine wpAnyH_ready (rs := [44]) (by kernel_rfl) (by simp) ?_
      refine AllReadyH.cons rfl (fun K hK => ?_) AllReadyH.nil
      go_simp
      (go_at_call 14; refine (s3 _).mono ?_; rintro e wm ⟨rfl, ho⟩; (first | replace HM := Lib.hid (HM.out.frame ho) | have HOS := Lib.hid ho); (try have hcv2 := conv_late HOS.out 1 1); (try replace HK := Lib.hid (HK.out.frame ho)); clear ho)
      (try go_wp2_with fail)
      refine hK.out _ _ trivial (fun hHeld => ?_)
      clear hK K
      (try simp only [Act.put, List.setIfInBounds_toArray, List.set_cons_zero, List.set_cons_succ, List.getElem_toArray, List.getElem_cons_succ, List.getElem_cons_zero])
      refine wpAnyH_ready (rs := [45]) (by kernel_rfl) (by simp) ?_
      refine AllReadyH.cons rfl (fun K hK => ?_) AllReadyH.nil
      go_simp
      (go_at_call 21; refine (a8 HM.out).mono ?_; rintro e wm ⟨rfl, ho⟩; replace HM := Lib.hid (HM.out.frame ho); clear ho)
      (try go_wp2_with fail)
      refine hK.out _ _ trivial (fun hHeld => ?_)
      clear hK K
      (try simp only [Act.put, List.setIfInBounds_toArray, List.set_cons_zero, List.set_cons_succ, List.getElem_toArray, List.getElem_cons_succ, List.getElem_cons_zero])
      refine wpAnyH_take (i := 46) (v := ?_) rfl (by kernel_rfl) (by kernel_rfl) (by kernel_rfl) (fun _ _ _ h => h) (Or.inl ⟨by rfl, ?_⟩) (by assumption) ?_
      rotate_left
      · ((intro w hSw); (first | (go_simp; done) | (go_simp; with_reducible rfl)))
      (try simp only [Act.put, List.setIfInBounds_toArray, List.set_cons_zero, List.set_cons_succ, List.getElem_toArray, List.getElem_cons_succ, List.getElem_cons_zero])
      refine wpAnyH_take (i := 47) (v := ?_) rfl (by kernel_rfl) (by kernel_rfl) (by kernel_rfl) (fun _ _ _ h => h) (Or.inl ⟨by rfl, ?_⟩) (by assumption) ?_
      rotate_left
      · ((intro w hSw); (first | (go_simp; done) | (go_simp; with_reducible rfl)))
      (try simp only [Act.put, List.setIfInBounds_toArray, List.set_cons_zero, List.set_cons_succ, List.getElem_toArray, List.getElem_cons_succ, List.getElem_cons_zero])
      refine wpAnyH_take (i := 48) (v := ?_) rfl (by kernel_rfl) (by kernel_rfl) (by kernel_rfl) (fun _ _ _ h => h) (Or.inl ⟨by rfl, ?_⟩) (by assumption) ?_
      rotate_left
      · ((intro w hSw); (first | (go_simp; done) | (go_simp; with_reducible rfl)))
      (try simp only [Act.put, List.setIfInBounds_toArray, List.set_cons_zero, List.set_cons_succ, List.getElem_toArray, List.getElem_cons_succ, List.getElem_cons_zero])
      refine wpAnyH_take (i := 49) (v := ?_) rfl (by kernel_rfl) (by kernel_rfl) (by kernel_rfl) (fun _ _ _ h => h) (Or.inl ⟨by rfl, ?_⟩) (by assumption) ?_
      rotate_left
      · ((intro w hSw); (first | (go_simp; done) | (go_simp; with_reducible rfl)))
      (try simp only [Act.put, List.setIfInBounds_toArray, List.set_cons_zero, List.set_cons_succ, List.getElem_toArray, List.getElem_cons_succ, List.getElem_cons_zero])
      refine wpAnyH_ready (rs := [50, 51]) (by kernel_rfl) (by simp) ?_
      refine AllReadyH.cons rfl (fun K hK => ?_) (AllReadyH.cons rfl (fun K hK => ?_) AllReadyH.nil)
      · go_simp
        (go_at_call 14; refine (s5 _).mono ?_; rintro e wm ⟨rfl, ho⟩; (first | replace HM := Lib.hid (HM.out.frame ho) | have HOS := Lib.hid ho); (try have hcv2 := conv_late HOS.out 1 1); (try replace HK := Lib.hid (HK.out.frame ho)); clear ho)
        (try go_wp2_with fail)
        refine hK.out _ _ trivial (fun hHeld => ?_)
        clear hK K
        (try simp only [Act.put, List.setIfInBounds_toArray, List.set_cons_zero, List.set_cons_succ, List.getElem_toArray, List.getElem_cons_succ, List.getElem_cons_zero])
        refine wpAnyH_ready (rs := [51]) (by kernel_rfl) (by simp) ?_
        refine AllReadyH.cons rfl (fun K hK => ?_) AllReadyH.nil
        go_simp
        refine hK.out _ _ trivial (fun hHeld => ?_)
        clear hK K
        (try simp only [Act.put, List.setIfInBounds_toArray, List.set_cons_zero, List.set_cons_succ, List.getElem_toArray, List.getElem_cons_succ, List.getElem_cons_zero])
        refine wpAnyH_ready (rs := [52]) (by kernel_rfl) (by simp) ?_
        refine AllReadyH.cons rfl (fun K hK => ?_) AllReadyH.nil
        go_simp
        (go_at_call 17; (with_reducible (first | refine (a9 HM.out rfl (Only.refl _ _)).mono ?_ | refine (a9 HM.out rfl HOS.out).mono ?_)); rintro e wm ⟨rfl, hm⟩; replace HM := Lib.hid hm; (try clear hcv2); (try clear HOS); clear hm)
        (try go_wp2_with fail)
        refine hK.out _ _ trivial (fun hHeld => ?_)
        clear hK K
        (try simp only [Act.put, List.setIfInBounds_toArray, List.set_cons_zero, List.set_cons_succ, List.getElem_toArray, List.getElem_cons_succ, List.getElem_cons_zero])
        refine wpAnyH_take (i := 53) (v := ?_) rfl (by kernel_rfl) (by kernel_rfl) (by kernel_rfl) (fun _ _ _ h => h) (Or.inl ⟨by rfl, ?_⟩) (by assumption) ?_
        rotate_left
        · ((intro w hSw); (first | (go_simp; done) | (go_simp; with_reducible rfl)))
        (try simp only [Act.put, List.setIfInBounds_toArray, List.set_cons_zero, List.set_cons_succ, List.getElem_toArray, List.getElem_cons_succ, List.getElem_cons_zero])
        refine wpAnyH_take (i := 54) (v := ?_) rfl (by kernel_rfl) (by kernel_rfl) (by kernel_rfl) (fun _ _ _ h => h) (Or.inl ⟨by rfl, ?_⟩) (by assumption) ?_
        rotate_left
        · ((intro w hSw); (first | (go_simp; done) | (go_simp; with_reducible rfl)))
        (try simp only [Act.put, List.setIfInBounds_toArray, List.set_cons_zero, List.set_cons_succ, List.getElem_toArray, List.getElem_cons_succ, List.getElem_cons_zero])
        refine wpAnyH_take (i := 55) (v := ?_) rfl (by kernel_rfl) (by kernel_rfl) (by kernel_rfl) (fun _ _ _ h => h) (Or.inl ⟨by rfl, ?_⟩) (by assumption) ?_
        rotate_left
        · ((intro w hSw); (first | (go_simp; done) | (go_simp; with_reducible rfl)))
        (try simp only [Act.put, List.setIfInBounds_toArray, List.set_cons_zero, List.set_cons_succ, List.getElem_toArray, List.getElem_cons_succ, List.getElem_cons_zero])
        refine wpAnyH_done (by kernel_rfl) ?_ _
        refine NoPanic.normal ?_
        go_wp2
        go_ret
        exact ⟨rfl, HM.out.only⟩
      · go_simp
        refine hK.out _ _ trivial (fun hHeld => ?_)
        clear hK K
        (try simp only [Act.put, List.setIfInBounds_toArray, List.set_cons_zero, List.set_cons_succ, List.getElem_toArray, List.getElem_cons_succ, List.getElem_cons_zero])
        refine wpAnyH_ready (rs := [50]) (by kernel_rfl) (by simp) ?_
        refine AllReadyH.cons rfl (fun K hK => ?_) AllReadyH.nil
        go_simp
        (go_at_call 14; refine (s5 _).mono ?_; rintro e wm ⟨rfl, ho⟩; (first | replace HM := Lib.hid (HM.out.frame ho) | have HOS := Lib.hid ho); (try have hcv2 := conv_late HOS.out 1 1); (try replace HK := Lib.hid (HK.out.frame ho)); clear ho)
        (try go_wp2_with fail)
        refine hK.out _ _ trivial (fun hHeld => ?_)
        clear hK K
        (try simp only [Act.put, List.setIfInBounds_toArray, List.set_cons_zero, List.set_cons_succ, List.getElem_toArray, List.getElem_cons_succ, List.getElem_cons_zero])
        refine wpAnyH_ready (rs := [52]) (by kernel_rfl) (by simp) ?_
        refine AllReadyH.cons rfl (fun K hK => ?_) AllReadyH.nil
        go_simp
        (go_at_call 17; (with_reducible (first | refine (a9 HM.out rfl (Only.refl _ _)).mono ?_ | refine (a9 HM.out rfl HOS.out).mono ?_)); rintro e wm ⟨rfl, hm⟩; replace HM := Lib.hid hm; (try clear hcv2); (try clear HOS); clear hm)
        (try go_wp2_with fail)
        refine hK.out _ _ trivial (fun hHeld => ?_)
        clear hK K
        (try simp only [Act.put, List.setIfInBounds_toArray, List.set_cons_zero, List.set_cons_succ, List.getElem_toArray, List.getElem_cons_succ, List.getElem_cons_zero])
        refine wpAnyH_take (i := 53) (v := ?_) rfl (by kernel_rfl) (by kernel_rfl) (by kernel_rfl) (fun _ _ _ h => h) (Or.inl ⟨by rfl, ?_⟩) (by assumption) ?_
        rotate_left
        · ((intro w hSw); (first | (go_simp; done) | (go_simp; with_reducible rfl)))
        (try simp only [Act.put, List.setIfInBounds_toArray, List.set_cons_zero, List.set_cons_succ, List.getElem_toArray, List.getElem_cons_succ, List.getElem_cons_zero])
        refine wpAnyH_take (i := 54) (v := ?_) rfl (by kernel_rfl) (by kernel_rfl) (by kernel_rfl) (fun _ _ _ h => h) (Or.inl ⟨by rfl, ?_⟩) (by assumption) ?_
        rotate_left
        · ((intro w hSw); (first | (go_simp; done) | (go_simp; with_reducible rfl)))
        (try simp only [Act.put, List.setIfInBounds_toArray, List.set_cons_zero, List.set_cons_succ, List.getElem_toArray, List.getElem_cons_succ, List.getElem_cons_zero])
        refine wpAnyH_take (i := 55) (v := ?_) rfl (by kernel_rfl) (by kernel_rfl) (by kernel_rfl) (fun _ _ _ h => h) (Or.inl ⟨by rfl, ?_⟩) (by assumption) ?_
        rotate_left
        · ((intro w hSw); (first | (go_simp; done) | (go_simp; with_reducible rfl)))
        (try simp only [Act.put, List.setIfInBounds_toArray, List.set_cons_zero, List.set_cons_succ, List.getElem_toArray, List.getElem_cons_succ, List.getElem_cons_zero])
        refine wpAnyH_done (by kernel_rfl) ?_ _
        refine NoPanic.normal ?_
        go_wp2
        go_ret
        exact ⟨rfl, HM.out.only⟩
    · go_simp
      refine hK.out _ _ trivial (fun hHeld => ?_)
      clear hK K
      (try simp only [Act.put, List.setIfInBounds_toArray, List.set_cons_zero, List.set_cons_succ, List.getElem_toArray, List.getElem_cons_succ, List.getElem_cons_zero])
      refine wpAnyH_ready (rs := [31]) (by kernel_rfl) (by simp) ?_
      refine AllReadyH.cons rfl (fun K hK => ?_) AllReadyH.nil
      go_simp
      (go_at_call 14; refine (s4 _).mono ?_; rintro e wm ⟨rfl, ho⟩; (first | replace HM := Lib.hid (HM.out.frame ho) | have HOS := Lib.hid ho); (try have hcv2 := conv_late HOS.out 1 1); (try replace HK := Lib.hid (HK.out.frame ho)); clear ho)
      (try go_wp2_with fail)
      refine hK.out _ _ trivial (fun hHeld => ?_)
      clear hK K
      (try simp only [Act.put, List.setIfInBounds_toArray, List.set_cons_zero, List.set_cons_succ, List.getElem_toArray, List.getElem_cons_succ, List.getElem_cons_zero])
      refine wpAnyH_ready (rs := [34]) (by kernel_rfl) (by simp) ?_
      refine AllReadyH.cons rfl (fun K hK => ?_) AllReadyH.nil
      go_simp
      (go_at_call 17; (with_reducible (first | refine (a6 HM.out rfl (Only.refl _ _)).mono ?_ | refine (a6 HM.out rfl HOS.out).mono ?_ | refine (a6l HM.out HOS.out).mono ?_)); rintro e wm ⟨rfl, hm⟩; replace HM := Lib.hid hm; (try clear hcv2); (try clear HOS); clear hm)
      (try go_wp2_with fail)
      refine hK.out _ _ trivial (fun hHeld => ?_)
      clear hK K
      (try simp only [Act.put, List.setIfInBounds_toArray, List.set_cons_zero, List.set_cons_succ, List.getElem_toArray, List.getElem_cons_succ, List.getElem_cons_zero])
      refine wpAnyH_take (i := 35) (v := ?_) rfl (by kernel_rfl) (by kernel_rfl) (by kernel_rfl) (fun _ _ _ h => h) (Or.inl ⟨by rfl, ?_⟩) (by assumption) ?_
      rotate_left
      · ((intro w hSw); (first | (go_simp; done) | (go_simp; with_reducible rfl)))
      (try simp only [Act.put, List.setIfInBounds_toArray, List.set_cons_zero, List.set_cons_succ, List.getElem_toArray, List.getElem_cons_succ, List.getElem_cons_zero])
      refine wpAnyH_take (i := 36) (v := ?_) rfl (by kernel_rfl) (by kernel_rfl) (by kernel_rfl) (fun _ _ _ h => h) (Or.inl ⟨by rfl, ?_⟩) (by assumption) ?_
      rotate_left
      · ((intro w hSw); (first | (go_simp; done) | (go_simp; with_reducible rfl)))
      (try simp only [Act.put, List.setIfInBounds_toArray, List.set_cons_zero, List.set_cons_succ, List.getElem_toArray, List.getElem_cons_succ, List.getElem_cons_zero])
      refine wpAnyH_take (i := 37) (v := ?_) rfl (by kernel_rfl) (by kernel_rfl) (by kernel_rfl) (fun _ _ _ h => h) (Or.inl ⟨by rfl, ?_⟩) (by assumption) ?_
      rotate_left
      · ((intro w hSw); (first | (go_simp; done) | (go_simp; with_reducible rfl)))
      (try simp only [Act.put, List.setIfInBounds_toArray, List.set_cons_zero, List.set_cons_succ, List.getElem_toArray, List.getElem_cons_succ, List.getElem_cons_zero])
      refine wpAnyH_take (i := 38) (v := ?_) rfl (by kernel_rfl) (by kernel_rfl) (by kernel_rfl) (fun _ _ _ h => h) (Or.inl ⟨by rfl, ?_⟩) (by assumption) ?_
      rotate_left
      · ((intro w hSw); (first | (go_simp; done) | (go_simp; with_reducible rfl)))
      (try simp only [Act.put, List.setIfInBounds_toArray, List.set_cons_zero, List.set_cons_succ, List.getElem_toArray, List.getElem_cons_succ, List.getElem_cons_zero])
      refine wpAnyH_ready (rs := [39]) (by kernel_rfl) (by simp) ?_
      refine AllReadyH.cons rfl (fun K hK => ?_) AllReadyH.nil
      go_simp
      (go_at_call 14; refine (s1 _).mono ?_; rintro e wm ⟨rfl, ho⟩; (first | replace HM := Lib.hid (HM.out.frame ho) | have HOS := Lib.hid ho); (try have hcv2 := conv_late HOS.out 1 1); (try replace HK := Lib.hid (HK.out.frame ho)); clear ho)
      (try go_wp2_with fail)
      refine hK.out _ _ trivial (fun hHeld => ?_)
      clear hK K
      (try simp only [Act.put, List.setIfInBounds_toArray, List.set_cons_zero, List.set_cons_succ, List.getElem_toArray, List.getElem_cons_succ, List.getElem_cons_zero])
      refine wpAnyH_ready (rs := [40]) (by kernel_rfl) (by simp) ?_
      refine AllReadyH.cons rfl (fun K hK => ?_) AllReadyH.nil
      go_simp
      (go_at_call 21; refine (a7 HM.out).mono ?_; rintro e wm ⟨rfl, ho⟩; replace HM := Lib.hid (HM.out.frame ho); clear ho)
      (try go_wp2_with fail)
      refine hK.out _ _ trivial (fun hHeld => ?_)
      clear hK K
      (try simp only [Act.put, List.setIfInBounds_toArray, List.set_cons_zero, List.set_cons_succ, List.getElem_toArray, List.getElem_cons_succ, List.getElem_cons_zero])
      refine wpAnyH_take (i := 41) (v := ?_) rfl (by kernel_rfl) (by kernel_rfl) (by kernel_rfl) (fun _ _ _ h => h) (Or.inl ⟨by rfl, ?_⟩) (by assumption) ?_
      rotate_left
      · ((intro w hSw); (first | (go_simp; done) | (go_simp; with_reducible rfl)))
      (try simp only [Act.put, List.setIfInBounds_toArray, List.set_cons_zero, List.set_cons_succ, List.getElem_toArray, List.getElem_cons_succ, List.getElem_cons_zero])
      refine wpAnyH_take (i := 42) (v := ?_) rfl (by kernel_rfl) (by kernel_rfl) (by kernel_rfl) (fun _ _ _ h => h) (Or.inl ⟨by rfl, ?_⟩) (by assumption) ?_
      rotate_left
      · ((intro w hSw); (first | (go_simp; done) | (go_simp; with_reducible rfl)))
      (try simp only [Act.put, List.setIfInBounds_toArray, List.set_cons_zero, List.set_cons_succ, List.getElem_toArray, List.getElem_cons_succ, List.getElem_cons_zero])
      refine wpAnyH_take (i := 43) (v := ?_) rfl (by kernel_rfl) (by kernel_rfl) (by kernel_rfl) (fun _ _ _ h => h) (Or.inl ⟨by rfl, ?_⟩) (by assumption) ?_
      rotate_left
      · ((intro w hSw); (first | (go_simp; done) | (go_simp; with_reducible rfl)))
      (try simp only [Act.put, List.setIfInBounds_toArray, List.set_cons_zero, List.set_cons_succ, List.getElem_toArray, List.getElem_cons_succ, List.getElem_cons_zero])
      refine wpAnyH_ready (rs := [44]) (by kernel_rfl) (by simp) ?_
      refine AllReadyH.cons rfl (fun K hK => ?_) AllReadyH.nil
      go_simp
      (go_at_call 14; refine (s3 _).mono ?_; rintro e wm ⟨rfl, ho⟩; (first | replace HM := Lib.hid (HM.out.frame ho) | have HOS := Lib.hid ho); (try have hcv2 := conv_late HOS.out 1 1); (try replace HK := Lib.hid (HK.out.frame ho)); clear ho)
      (try go_wp2_with fail)
      refine hK.out _ _ trivial (fun hHeld => ?_)
      clear hK K
      (try simp only [Act.put, List.setIfInBounds_toArray, List.set_cons_zero, List.set_cons_succ, List.getElem_toArray, List.getElem_cons_succ, List.getElem_cons_zero])
      refine wpAnyH_ready (rs := [45]) (by kernel_rfl) (by simp) ?_
      refine AllReadyH.cons rfl (fun K hK => ?_) AllReadyH.nil
      go_simp
      (go_at_call 21; refine (a8 HM.out).mono ?_; rintro e wm ⟨rfl, ho⟩; replace HM := Lib.hid (HM.out.frame ho); clear ho)
      (try go_wp2_with fail)
      refine hK.out _ _ trivial (fun hHeld => ?_)
      clear hK K
      (try simp only [Act.put, List.setIfInBounds_toArray, List.set_cons_zero, List.set_cons_succ, List.getElem_toArray, List.getElem_cons_succ, List.getElem_cons_zero])
      refine wpAnyH_take (i := 46) (v := ?_) rfl (by kernel_rfl) (by kernel_rfl) (by kernel_rfl) (fun _ _ _ h => h) (Or.inl ⟨by rfl, ?_⟩) (by assumption) ?_
      rotate_left
      · ((intro w hSw); (first | (go_simp; done) | (go_simp; with_reducible rfl)))
      (try simp only [Act.put, List.setIfInBounds_toArray, List.set_cons_zero, List.set_cons_succ, List.getElem_toArray, List.getElem_cons_succ, List.getElem_cons_zero])
      refine wpAnyH_take (i := 47) (v := ?_) rfl (by kernel_rfl) (by kernel_rfl) (by kernel_rfl) (fun _ _ _ h => h) (Or.inl ⟨by rfl, ?_⟩) (by assumption) ?_
      rotate_left
      · ((intro w hSw); (first | (go_simp; done) | (go_simp; with_reducible rfl)))
      (try simp only [Act.put, List.setIfInBounds_toArray, List.set_cons_zero, List.set_cons_succ, List.getElem_toArray, List.getElem_cons_succ, List.getElem_cons_zero])
      refine wpAnyH_take (i := 48) (v := ?_) rfl (by kernel_rfl) (by kernel_rfl) (by kernel_rfl) (fun _ _ _ h => h) (Or.inl ⟨by rfl, ?_⟩) (by assumption) ?_
      rotate_left
      · ((intro w hSw); (first | (go_simp; done) | (go_simp; with_reducible rfl)))
      (try simp only [Act.put, List.setIfInBounds_toArray, List.set_cons_zero, List.set_cons_succ, List.getElem_toArray, List.getElem_cons_succ, List.getElem_cons_zero])
      refine wpAnyH_take (i := 49) (v := ?_) rfl (by kernel_rfl) (by kernel_rfl) (by kernel_rfl) (fun _ _ _ h => h) (Or.inl ⟨by rfl, ?_⟩) (by assumption) ?_
      rotate_left
      · ((intro w hSw); (first | (go_simp; done) | (go_simp; with_reducible rfl)))
      (try simp only [Act.put, List.setIfInBounds_toArray, List.set_cons_zero, List.set_cons_succ, List.getElem_toArray, List.getElem_cons_succ, List.getElem_cons_zero])
      refine wpAnyH_ready (rs := [50, 51]) (by kernel_rfl) (by simp) ?_
      refine AllReadyH.cons rfl (fun K hK => ?_) (AllReadyH.cons rfl (fun K hK => ?_) AllReadyH.nil)
      · go_simp
        (go_at_call 14; refine (s5 _).mono ?_; rintro e wm ⟨rfl, ho⟩; (first | replace HM := Lib.hid (HM.out.frame ho) | have HOS := Lib.hid ho); (try have hcv2 := conv_late HOS.out 1 1); (try replace HK := Lib.hid (HK.out.frame ho)); clear ho)
        (try go_wp2_with fail)
        refine hK.out _ _ trivial (fun hHeld => ?_)
        clear hK K
        (try simp only [Act.put, List.setIfInBounds_toArray, List.set_cons_zero, List.set_cons_succ, List.getElem_toArray, List.getElem_cons_succ, List.getElem_cons_zero])
        refine wpAnyH_ready (rs := [51]) (by kernel_rfl) (by simp) ?_
        refine AllReadyH.cons rfl (fun K hK => ?_) AllReadyH.nil
        go_simp
        refine hK.out _ _ trivial (fun hHeld => ?_)
        clear hK K
        (try simp only [Act.put, List.setIfInBounds_toArray, List.set_cons_zero, List.set_cons_succ, List.getElem_toArray, List.getElem_cons_succ, List.getElem_cons_zero])
        refine wpAnyH_ready (rs := [52]) (by kernel_rfl) (by simp) ?_
        refine AllReadyH.cons rfl (fun K hK => ?_) AllReadyH.nil
        go_simp
        (go_at_call 17; (with_reducible (first | refine (a9 HM.out rfl (Only.refl _ _)).mono ?_ | refine (a9 HM.out rfl HOS.out).mono ?_)); rintro e wm ⟨rfl, hm⟩; replace HM := Lib.hid hm; (try clear hcv2); (try clear HOS); clear hm)
        (try go_wp2_with fail)
        refine hK.out _ _ trivial (fun hHeld => ?_)
        clear hK K
        (try simp only [Act.put, List.setIfInBounds_toArray, List.set_cons_zero, List.set_cons_succ, List.getElem_toArray, List.getElem_cons_succ, List.getElem_cons_zero])
        refine wpAnyH_take (i := 53) (v := ?_) rfl (by kernel_rfl) (by kernel_rfl) (by kernel_rfl) (fun _ _ _ h => h) (Or.inl ⟨by rfl, ?_⟩) (by assumption) ?_
        rotate_left
        · ((intro w hSw); (first | (go_simp; done) | (go_simp; with_reducible rfl)))
        (try simp only [Act.put, List.setIfInBounds_toArray, List.set_cons_zero, List.set_cons_succ, List.getElem_toArray, List.getElem_cons_succ, List.getElem_cons_zero])
        refine wpAnyH_take (i := 54) (v := ?_) rfl (by kernel_rfl) (by kernel_rfl) (by kernel_rfl) (fun _ _ _ h => h) (Or.inl ⟨by rfl, ?_⟩) (by assumption) ?_
        rotate_left
        · ((intro w hSw); (first | (go_simp; done) | (go_simp; with_reducible rfl)))
        (try simp only [Act.put, List.setIfInBounds_toArray, List.set_cons_zero, List.set_cons_succ, List.getElem_toArray, List.getElem_cons_succ, List.getElem_cons_zero])
        refine wpAnyH_take (i := 55) (v := ?_) rfl (by kernel_rfl) (by kernel_rfl) (by kernel_rfl) (fun _ _ _ h => h) (Or.inl ⟨by rfl, ?_⟩) (by assumption) ?_
        rotate_left
        · ((intro w hSw); (first | (go_simp; done) | (go_simp; with_reducible rfl)))
        (try simp only [Act.put, List.setIfInBounds_toArray, List.set_cons_zero, List.set_cons_succ, List.getElem_toArray, List.getElem_cons_succ, List.getElem_cons_zero])
        refine wpAnyH_done (by kernel_rfl) ?_ _
        refine NoPanic.normal ?_
        go_wp2
        go_ret
        exact ⟨rfl, HM.out.only⟩
      · go_simp
        refine hK.out _ _ trivial (fun hHeld => ?_)
        clear hK K
        (try simp only [Act.put, List.setIfInBounds_toArray, List.set_cons_zero, List.set_cons_succ, List.getElem_toArray, List.getElem_cons_succ, List.getElem_cons_zero])
        refine wpAnyH_ready (rs := [50]) (by kernel_rfl) (by simp) ?_
        refine AllReadyH.cons rfl (fun K hK => ?_) AllReadyH.nil
        go_simp
        (go_at_call 14; refine (s5 _).mono ?_; rintro e wm ⟨rfl, ho⟩; (first | replace HM := Lib.hid (HM.out.frame ho) | have HOS := Lib.hid ho); (try have hcv2 := conv_late HOS.out 1 1); (try replace HK := Lib.hid (HK.out.frame ho)); clear ho)
        (try go_wp2_with fail)
        refine hK.out _ _ trivial (fun hHeld => ?_)
        clear hK K
        (try simp only [Act.put, List.setIfInBounds_toArray, List.set_cons_zero, List.set_cons_succ, List.getElem_toArray, List.getElem_cons_succ, List.getElem_cons_zero])
        refine wpAnyH_ready (rs := [52]) (by kernel_rfl) (by simp) ?_
        refine AllReadyH.cons rfl (fun K hK => ?_) AllReadyH.nil
        go_simp
        (go_at_call 17; (with_reducible (first | refine (a9 HM.out rfl (Only.refl _ _)).mono ?_ | refine (a9 HM.out rfl HOS.out).mono ?_)); rintro e wm ⟨rfl, hm⟩; replace HM := Lib.hid hm; (try clear hcv2); (try clear HOS); clear hm)
        (try go_wp2_with fail)
        refine hK.out _ _ trivial (fun hHeld => ?_)
        clear hK K
        (try simp only [Act.put, List.setIfInBounds_toArray, List.set_cons_zero, List.set_cons_succ, List.getElem_toArray, List.getElem_cons_succ, List.getElem_cons_zero])
        refine wpAnyH_take (i := 53) (v := ?_) rfl (by kernel_rfl) (by kernel_rfl) (by kernel_rfl) (fun _ _ _ h => h) (Or.inl ⟨by rfl, ?_⟩) (by assumption) ?_
        rotate_left
        · ((intro w hSw); (first | (go_simp; done) | (go_simp; with_reducible rfl)))
        (try simp only [Act.put, List.setIfInBounds_toArray, List.set_cons_zero, List.set_cons_succ, List.getElem_toArray, List.getElem_cons_succ, List.getElem_cons_zero])
        refine wpAnyH_take (i := 54) (v := ?_) rfl (by kernel_rfl) (by kernel_rfl) (by kernel_rfl) (fun _ _ _ h => h) (Or.inl ⟨by rfl, ?_⟩) (by assumption) ?_
        rotate_left
        · ((intro w hSw); (first | (go_simp; done) | (go_simp; with_reducible rfl)))
        (try simp only [Act.put, List.setIfInBounds_toArray, List.set_cons_zero, List.set_cons_succ, List.getElem_toArray, List.getElem_cons_succ, List.getElem_cons_zero])
        refine wpAnyH_take (i := 55) (v := ?_) rfl (by kernel_rfl) (by kernel_rfl) (by kernel_rfl) (fun _ _ _ h => h) (Or.inl ⟨by rfl, ?_⟩) (by assumption) ?_
        rotate_left
        · ((intro w hSw); (first | (go_simp; done) | (go_simp; with_reducible rfl)))
        (try simp only [Act.put, List.setIfInBounds_toArray, List.set_cons_zero, List.set_cons_succ, List.getElem_toArray, List.getElem_cons_succ, List.getElem_cons_zero])
        refine wpAnyH_done (by kernel_rfl) ?_ _
        refine NoPanic.normal ?_
        go_wp2
        go_ret
        exact ⟨rfl, HM.out.only⟩
end Go.Proofs.Ytafeiankpckijaa
