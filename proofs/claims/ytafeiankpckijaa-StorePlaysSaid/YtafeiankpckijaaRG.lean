/- The walk of Get, in the document's store. -/
import Derived.Test.YtafeiankpckijaaRF
namespace Go.Proofs.Ytafeiankpckijaa
open Go.RowKit
set_option linter.unusedSimpArgs false
set_option linter.unusedVariables false
attribute [local go_sem ↓] Go.wp_at_zero Go.wp_at_succ
theorem bs59 (w : World) (x : RC) : (Instr.buildSlice 59 1 #[(0, .agg x.cells.toArray)]).run Try.prog w = .ok (.slice (some ⟨w.heap.size, 0, none⟩) 1 1) (w.alloc (.cells x.cells.toArray 81)) := by
  obtain ⟨i0, q1, q2, q3, q4⟩ := info_parts infoZ81
  refine run_buildSlice w 59 81 1 _ _ i0 _ under59 q1 q2 (by rw [q3]; omega) (by rw [q3]; omega) ?_
  rw [q3]
  kernel_rfl
def bldR (ps : Array (Nat × Value)) : Sem Value := Instr.buildSlice 59 1 ps
theorem bldR_eq (ps : Array (Nat × Value)) : Instr.buildSlice 59 1 ps = bldR ps := rfl
theorem bldR_run (w : World) (x : RC) : (bldR #[(0, .agg x.cells.toArray)]).run Try.prog w = .ok (.slice (some ⟨w.heap.size, 0, none⟩) 1 1) (w.alloc (.cells x.cells.toArray 81)) := bs59 w x
/-- A chunk is appended to a list of the document's store, which lies in blocks of its own. -/
theorem back_app {W w4 : World} {r most room B : Nat} {R0 : List RC} {lo : Option Addr} {cap n : Nat} {x : RC} {G G4 : Nat → Prop} (H : Ref W w4 r most room R0 (.slice lo n cap) G4) (hn : n = R0.length) (hB : ∀ g, (Value.slice lo n cap).ownBlock = some g → B ≤ g) (hdat : ∀ y ∈ R0 ++ [x], DataAt w4 (fun q => G q ∧ q ≠ r) y.bo y.b)
    (hG : ∀ q, G q → q < B ∧ W.heap.size ≤ q) (hr : G r) (hBw : B ≤ w4.heap.size) (hk : x.key < 65536) (hl : n ≤ 1000000) :
    ∃ lo6 cap6 w6, (Builtin.append_ #[59, 59] 59 #[.slice lo n cap, .slice (some ⟨w4.heap.size, 0, none⟩) 1 1]).run Try.prog ((w4.alloc (.cells x.cells.toArray 81)).drew) = .ok (.slice lo6 (n + 1) cap6) w6 ∧
      w6.cell? ⟨r, 2, none⟩ = some (.slice lo n cap) ∧ w6.frozen? ⟨r, 2, none⟩ = false ∧ Beside (fun y => y < w4.heap.size ∧ (Value.slice lo n cap).ownBlock ≠ some y) w4 w6 ∧
      (w4.alloc (.cells x.cells.toArray 81)).cell? ⟨r, 2, none⟩ = some (.slice lo n cap) ∧
      Ref W (w6.setCell ⟨r, 2, none⟩ (.slice lo6 (n + 1) cap6)) r most room (R0 ++ [x]) (.slice lo6 (n + 1) cap6) (fun y => G y ∨ (Value.slice lo6 (n + 1) cap6).ownBlock = some y) ∧ (∀ g, (Value.slice lo6 (n + 1) cap6).ownBlock = some g → B ≤ g) ∧
      Only (fun y => y = r) w6 (w6.setCell ⟨r, 2, none⟩ (.slice lo6 (n + 1) cap6)) := by
  subst hn
  obtain ⟨i0, q1, q2, q3, q4⟩ := info_parts infoZ81
  have ho0 := (Only.refl (fun _ => False) w4).alloc (.cells x.cells.toArray 81)
  have h5 := (H.only ho0)
  have h5d := H.only ho0.drew
  have hown0 : (w4.alloc (.cells x.cells.toArray 81)).drew.ownsRow B 81 34 (.slice lo R0.length cap) R0.length (rcs R0) := by
    obtain ⟨h1, h2 | ⟨g, cap', cur, hv, hb, hr⟩⟩ := h5d.own
    · exact ⟨h1, Or.inl h2⟩
    · exact ⟨h1, Or.inr ⟨g, cap', cur, hv, hB g (by rw [hv]; rfl), hr⟩⟩
  have hx1 : rcs [x] = x.cells := by unfold rcs; simp
  obtain ⟨v6, w6, hr6, hown6, hg6, -⟩ := run_append_own (P := Try.prog) _ B 59 59 81 i0 (.agg Z81) 34 64 under59 q1 q2 q3 q4 (by rfl) (by omega) _ R0.length (rcs R0) hown0 ⟨w4.heap.size, 0, none⟩ 1 1 (rcs [x]) (by rw [hx1, RC.len])
    (fun j u hj => by
      have ha : (⟨w4.heap.size, 0, none⟩ : Addr).add j = ⟨w4.heap.size, j, none⟩ := by unfold Addr.add; split <;> simp_all
      rw [ha]
      rw [hx1] at hj
      have hc : (w4.alloc (.cells x.cells.toArray 81)).cell? ⟨w4.heap.size, j, none⟩ = _ := cell_of_row _ _ _ _ _ _ (heap_alloc_new _ _)
      show (w4.alloc (.cells x.cells.toArray 81)).cell? ⟨w4.heap.size, j, none⟩ = some u
      rw [hc]; simpa using hj) rcs_one (by unfold maxLen; omega) (by omega) (Nat.le_trans hBw ho0.size)
  rw [← rcs_app] at hown6
  obtain ⟨lo6, cap6, hs6⟩ := own_shape hown6
  subst hs6
  have hv6 := hown6.lt
  have hrne : (Value.slice lo R0.length cap).ownBlock ≠ some r := fun e => (h5d.ne r e).1 rfl
  have hb6 : Beside (fun y => y < w4.heap.size ∧ (Value.slice lo R0.length cap).ownBlock ≠ some y) (w4.alloc (.cells x.cells.toArray 81)).drew w6 := ⟨hg6.os, hg6.tape, hg6.output, hg6.size, fun k hk hn => hg6.block k hk (fun e => hn (fun h => h.2 e.symm))⟩
  have hbo : Beside (fun y => y < w4.heap.size ∧ (Value.slice lo R0.length cap).ownBlock ≠ some y) w4 (w4.alloc (.cells x.cells.toArray 81)).drew := Beside.of ho0.drew
  have hbb := hbo.trans hb6
  have hrl := H.lt
  have hd6 : w6.heap[r]? = some (.cells (refHdr most room (.slice lo R0.length cap)) 61 (0, 0)) := (hbb.block r hrl (fun hn => hn ⟨hrl, hrne⟩)).trans H.hd
  have hlen : (R0 ++ [x]).length = R0.length + 1 := by simp
  have hkk : ∀ y ∈ R0 ++ [x], y.key < 65536 := fun y hy => by
    rcases List.mem_append.1 hy with hy | hy
    · exact H.keys y hy
    · simp at hy; subst hy; exact hk
  obtain ⟨s1, s2, s3, s4⟩ := ref_set (W := W) (R' := R0 ++ [x]) (v' := .slice lo6 (R0.length + 1) cap6) (G' := fun y => G y ∨ (Value.slice lo6 (R0.length + 1) cap6).ownBlock = some y) hd6 (by rw [hlen]; exact own_base hown6 (Nat.le_trans (hG r hr).2 (Nat.le_of_lt (hG r hr).1)))
    (fun g hg => ⟨fun e => by have := (hv6 g hg).1; have := (hG r hr).1; omega, Or.inr hg⟩) (Or.inl hr)
    (fun y hy j hj => by
      obtain ⟨ad, e1, e2, e3, e4⟩ := hdat y hy j hj
      have hq := (hG _ e3).1
      exact ⟨ad, e1, hbb.cell e2 (by rw [add_block]; exact ⟨by omega, fun e => by have := hB _ e; omega⟩), Or.inl e3, e4, fun e => by have := (hv6 _ e).1; omega⟩)
    hkk (fun y hy => by
      rcases hy with hy | hy
      · have := hG y hy; have := Only.size hbb; exact ⟨by omega, by omega⟩
      · have := hv6 y hy; have := hG r hr; exact ⟨by omega, by omega⟩)
  exact ⟨lo6, cap6, w6, hr6, s1, s2, hbb, h5.c2, s3, fun g hg => (hv6 g hg).1, s4⟩
attribute [local go_sem ↓ high] bldR_eq
attribute [local go_sem] bldR_run
theorem again_wide {W w w2 w7 : World} {r most room nn : Nat} {R' : List RC} {lo6 : Option Addr} {cap6 : Nat} {G : Nat → Prop} {F : Nat → Prop} (h : Ref W w7 r most room R' (.slice lo6 nn cap6) (fun y => G y ∨ (Value.slice lo6 nn cap6).ownBlock = some y)) (hv : ∀ g, (Value.slice lo6 nn cap6).ownBlock = some g → w2.heap.size ≤ g) (ho2 : Only F w w2) (ho : Only (fun y => y = r) w w7) (hb : W.heap.size ≤ w.heap.size) :
    Ref W w7 r most room R' (.slice lo6 nn cap6) (grow G w w7) :=
  h.wide (fun y hy => by
    rcases hy with hy | hy
    · exact Or.inl hy
    · exact Or.inr ⟨Nat.le_trans ho2.size (hv y hy), (h.low y (Or.inr hy)).2⟩) (fun y hy => by
    rcases hy with hy | hy
    · exact h.low y (Or.inl hy)
    · exact ⟨Nat.le_trans hb hy.1, hy.2⟩)
theorem again_touch {k : Nat} {L : List Chunk} {l t : List RC} {x : RC} (h : hasL k L = true ∧ oth k L = (l ++ t).map RC.ch ∧ own k L = [x.ch]) : (l ++ t ++ [x]).map RC.ch = touch k L := by
  unfold touch; rw [h.2.1, h.2.2, List.map_append]; rfl
theorem again_get {W w w2 w7 : World} {r most room nn k : Nat} {L : List Chunk} {l t R0 : List RC} {x : RC} {lo6 : Option Addr} {cap6 : Nat} {G : Nat → Prop} {v0 : Value} (h : Ref W w7 r most room (l ++ t ++ [x]) (.slice lo6 nn cap6) (fun y => G y ∨ (Value.slice lo6 nn cap6).ownBlock = some y)) (ho : Only (fun y => y = r) w w7) (hv : ∀ g, (Value.slice lo6 nn cap6).ownBlock = some g → w2.heap.size ≤ g)
    (hs : hasL k L = true ∧ oth k L = (l ++ t).map RC.ch ∧ own k L = [x.ch]) (ho2 : Only (fun _ => False) w w2) (hR : Ref W w r most room R0 v0 G) :
    ∃ bo cb, Ending.returned (.tuple #[.slice x.bo x.b.length x.cap, .int .i64 0]) = .returned (.tuple #[.slice bo (dataOf k L).length cb, .int .i64 (getE k L)]) ∧ DataAt w7 (fun _ => True) bo (dataOf k L) ∧ RefL W w7 r most room (touch k L) (grow G w w7) ∧ Only (fun y => y = r) w w7 := by
  have hd : dataOf k L = x.b := by unfold dataOf; rw [hs.2.2]; rfl
  refine ⟨x.bo, x.cap, by rw [hd, getE_has hs.1], by rw [hd]; exact (h.data x (by simp)).mono (fun _ _ => trivial), ⟨_, _, again_touch hs, again_wide h hv ho2 ho hR.low_base⟩, ho⟩
set_option maxRecDepth 100000 in
set_option maxHeartbeats 8000000 in
theorem rget_any (W w : World) (r most room k : Nat) (L : List Chunk) (G : Nat → Prop) (h : RefL W w r most room L G) (hk : k < 65536) (hl : L.length ≤ 64) (hnd : (L.map (·.key)).Nodup) :
    Calls Try.prog 30 #[.pointer (some ⟨r, 0, none⟩), Sum_ k] w fun e w' => ∃ bo cb, e = .returned (.tuple #[.slice bo (dataOf k L).length cb, .int .i64 (getE k L)]) ∧ DataAt w' (fun _ => True) bo (dataOf k L) ∧ RefL W w' r most room (touch k L) (grow G w w') ∧ Only (fun y => y = r) w w' := by
  obtain ⟨R, v, rfl, hR⟩ := h
  have ho1 := (Only.refl (fun _ => False) w).alloc (.cells (sumC k).toArray 38)
  have KP := Lib.hid (place_any W _ r most room k R v G (hR.only ho1) hk (by rw [List.length_map] at hl; omega))
  have HB := Lib.hid (box_range w (sumC k) 38)
  have HI := Lib.hid (infoSum k)
  have HO := Lib.hid ho1
  have HR := Lib.hid hR
  clear hR ho1
  unfold Sum_
  go_enter Try.func30, Try.ntmps30
  go_wp2_with (first | ((with_reducible refine gate_load 38 rfl ?_); (refine wpList_load_mid rfl 38 _ rfl w.heap.size 0 (by rfl) (sumC k) _ HB.out under38 rfl HI.out ?_)) | fail)
  refine KP.out.mono ?_
  rintro e w2 ⟨rfl, ho2⟩
  have HO2 := Lib.hid (HO.out.trans ho2)
  clear ho2 KP
  rcases place_cases k R with ⟨l, x, t, rfl, h2, h3, h4⟩ | ⟨h1, h2⟩
  · rw [h4]
    have hR2 := HR.out.only HO2.out
    obtain ⟨lo, cap, hvv⟩ := hR2.row
    subst hvv
    generalize hc0 : (l ++ x :: t).length = cap0 at hR2
    have KD := Lib.hid (drop_any W w2 r most room l t x (.slice lo cap0 cap) G hR2 (by rw [List.length_map] at hl; omega))
    have HU0 := under81
    obtain ⟨dd, hu, hdr⟩ := HU0
    have HU := Lib.hid (And.intro hu hdr)
    have HI2 := Lib.hid (show (Try.prog.info? 81).map (·.size) = some x.cells.length by rw [info81, RC.len])
    have HSP := Lib.hid (And.intro (ch_split h2 h3 hnd) (hR2.keys x (by simp)))
    have hGl : ∀ q, G q → q < w2.heap.size ∧ W.heap.size ≤ q := fun q hq => ⟨(hR2.low q hq).2, (hR2.low q hq).1⟩
    have HGL := Lib.hid (And.intro hGl hR2.rG)
    have b0 : (0 : Int) ≤ (l.length : Int) := by omega
    have bneg : decide ((l.length : Int) < 0) = false := decide_eq_false (by omega)
    clear h2 h3 h4 hR2 hu hdr hGl
    go_wp2_with fail
    refine KD.out.mono ?_
    rintro e w3 ⟨rfl, v', hr3, ho3, hdat3, hv3⟩
    obtain ⟨lo3, cap3, rfl⟩ := hr3.row
    have H3 := Lib.hid (And.intro hr3 (And.intro ho3 (And.intro hdat3 hv3)))
    clear KD hr3 ho3 hdat3 hv3
    go_wp2_with (first
      | ((with_reducible refine gate_store 81 rfl ?_); go_must (refine wpList_store_whole rfl 81 _ _ rfl w3.heap.size 0 x.cells.toArray (by rfl) (by rfl) (by rw [RC.size]; exact box_there w3 _ 81) (by rw [RC.size]; exact info81) (by exact all_oneCell_toArray x.one) ?_); intro w4 hw4; have hv := var_rc rfl hw4; clear hw4; have HV4 := Lib.hid hv.1; have HO4 := Lib.hid hv.2; clear hv)
      | fail)
    have hr4 := (H3.out.1.only HO4.out.1).only (Only.refl (fun _ => False) w4).drew
    have hc4 := hr4.c2
    have h3lt : w2.heap.size ≤ w3.heap.size := H3.out.2.1.size
    have h4lt : w3.heap.size ≤ w4.heap.size := HO4.out.1.size
    obtain ⟨lo6, cap6, w6, hrun, s1, s2, hbb, x5, s3, hv6, s4⟩ := back_app (w4 := w4) (R0 := l ++ t) (x := x) (G := G) (B := w2.heap.size) (H3.out.1.only HO4.out.1) rfl H3.out.2.2.2
      (fun y hy => (H3.out.2.2.1 y (by simp only [List.mem_append, List.mem_cons, List.not_mem_nil, or_false] at hy ⊢; rcases hy with (hy | hy) | hy <;> simp [hy])).frame' HO4.out.1)
      HGL.out.1 HGL.out.2 (by omega) HSP.out.2 (by have : (l ++ t).length ≤ (l ++ x :: t).length := by simp
                                                   rw [List.length_map] at hl; omega)
    have hown3 := H3.out.1.own.lt
    have rB0 : w4.drew.rangeAt w3.heap.size 0 x.cells := fun j u hj => HV4.out j u hj
    have rB1 : (w4.alloc (.cells x.cells.toArray 81)).drew.rangeAt w3.heap.size 0 x.cells := ronly HV4.out ((Only.refl (fun _ => False) w4).alloc _).drew
    have rB2 : w6.rangeAt w3.heap.size 0 x.cells := rbeside HV4.out hbb ⟨by have := HO4.out.2; omega, fun e => by have := (hown3 _ e).2; omega⟩
    have hr3lt := H3.out.1.lt
    have rB3 : (w6.setCell ⟨r, 2, none⟩ (.slice lo6 ((l ++ t).length + 1) cap6)).rangeAt w3.heap.size 0 x.cells := fun j u hj => s4.cell (rB2 j u hj) (fun e => by have : w3.heap.size = r := e; omega)
    have x4 : w4.cell? ⟨r, 2, none⟩ = some (.slice lo3 (l ++ t).length cap3) := hc4
    have hoW : Only (fun y => y = r) w4 (w6.setCell ⟨r, 2, none⟩ (.slice lo6 ((l ++ t).length + 1) cap6)) ∨ True := Or.inr trivial
    have hoA : Only (fun y => y = r) w w4 := (Only.mono HO2.out (fun _ _ h => h.elim)).trans (H3.out.2.1.trans (Only.mono HO4.out.1 (fun _ _ h => h.elim)))
    have hoB : Only (fun y => y = r) w w6 := hoA.trans' hbb (fun i hi hn => by
      exfalso
      have h9 := HO2.out.size
      exact hn ⟨by omega, fun e => by have := H3.out.2.2.2 _ e; omega⟩)
    have HF := Lib.hid (And.intro s3 (And.intro (hoB.trans s4) (And.intro hv6 rB3)))
    have HRUN := Lib.hid hrun
    generalize hnn : (l ++ t).length = nn at *
    clear hrun hbb s3 hv6 s4 hoA hoB hoW hown3 hr4 hc4 h3lt h4lt hr3lt HV4
    go_wp2_with fail
    refine wp_region_noPanic ?_
    refine wp_region_held_drew (S := (fun w' => w'.rangeAt w3.heap.size 0 x.cells)) (by kernel_rfl) (rB0) (fun hHeld => ?_)
    refine wpAnyH_take (i := 0) (v := ?_) rfl (by kernel_rfl) (by kernel_rfl) (by kernel_rfl) (fun _ _ _ h => h) (Or.inl ⟨by rfl, ?_⟩) (by assumption) ?_
    rotate_left
    · ((intro w hSw); (first | (go_simp; done) | (go_simp; with_reducible rfl)))
    (try simp only [Act.put, List.setIfInBounds_toArray, List.set_cons_zero, List.set_cons_succ, List.getElem_toArray, List.getElem_cons_succ, List.getElem_cons_zero])
    refine wpAnyH_take (i := 1) (v := ?_) rfl (by kernel_rfl) (by kernel_rfl) (by kernel_rfl) (fun _ _ _ h => h) (Or.inl ⟨by rfl, ?_⟩) (by assumption) ?_
    rotate_left
    · ((intro w hSw); (first | (go_simp; done) | (go_simp; with_reducible rfl)))
    (try simp only [Act.put, List.setIfInBounds_toArray, List.set_cons_zero, List.set_cons_succ, List.getElem_toArray, List.getElem_cons_succ, List.getElem_cons_zero])
    refine wpAnyH_take (i := 2) (v := ?_) rfl (by kernel_rfl) (by kernel_rfl) (by kernel_rfl) (fun _ _ _ h => h) (Or.inl ⟨by rfl, ?_⟩) (by assumption) ?_
    rotate_left
    · ((intro w hSw); (first | (go_simp; done) | (go_simp; with_reducible rfl)))
    (try simp only [Act.put, List.setIfInBounds_toArray, List.set_cons_zero, List.set_cons_succ, List.getElem_toArray, List.getElem_cons_succ, List.getElem_cons_zero])
    refine wpAnyH_take (i := 3) (v := ?_) rfl (by kernel_rfl) (by kernel_rfl) (by kernel_rfl) (fun _ _ _ h => h) (Or.inl ⟨by rfl, ?_⟩) (by assumption) ?_
    rotate_left
    · ((intro w hSw); (first | (go_simp; done) | (go_simp; with_reducible rfl)))
    (try simp only [Act.put, List.setIfInBounds_toArray, List.set_cons_zero, List.set_cons_succ, List.getElem_toArray, List.getElem_cons_succ, List.getElem_cons_zero])
    refine wpAnyH_take (i := 5) (v := .agg x.cells.toArray) rfl (by kernel_rfl) (by kernel_rfl) (by kernel_rfl) (fun _ _ _ h => h) (yieldsIf_load_mid (by rfl) 81 _ rfl w3.heap.size 0 (by rfl) x.cells _ (fun w h => h) HU.out.1 HU.out.2 HI2.out) (by assumption) ?_
    (try simp only [Act.put, List.setIfInBounds_toArray, List.set_cons_zero, List.set_cons_succ, List.getElem_toArray, List.getElem_cons_succ, List.getElem_cons_zero])
    refine wpAnyH_ready (rs := [4, 6]) (by kernel_rfl) (by simp) ?_
    refine AllReadyH.cons rfl (fun K hK => ?_) (AllReadyH.cons rfl (fun K hK => ?_) (AllReadyH.nil))
    · go_simp
      refine hK.out _ _ (by first | exact rB1 | exact rB0) (fun hHeld => ?_)
      clear hK K
      (try simp only [Act.put, List.setIfInBounds_toArray, List.set_cons_zero, List.set_cons_succ, List.getElem_toArray, List.getElem_cons_succ, List.getElem_cons_zero])
      refine wpAnyH_ready (rs := [6]) (by kernel_rfl) (by simp) ?_
      refine AllReadyH.cons rfl (fun K hK => ?_) (AllReadyH.nil)
      go_simp
      refine hK.out _ _ (by first | exact rB1 | exact rB0) (fun hHeld => ?_)
      clear hK K
      (try simp only [Act.put, List.setIfInBounds_toArray, List.set_cons_zero, List.set_cons_succ, List.getElem_toArray, List.getElem_cons_succ, List.getElem_cons_zero])
      refine wpAnyH_ready (rs := [7]) (by kernel_rfl) (by simp) ?_
      refine AllReadyH.cons rfl (fun K hK => ?_) (AllReadyH.nil)
      rw [if_pos (by rfl)]
      refine wp_append_run (.tmp 20) (.tmp 22) 59 59 rfl rfl _ _ (by rfl) (by rfl) _ _ HRUN.out ?_
      refine hK.out _ _ (rB2) (fun hHeld => ?_)
      clear hK K
      (try simp only [Act.put, List.setIfInBounds_toArray, List.set_cons_zero, List.set_cons_succ, List.getElem_toArray, List.getElem_cons_succ, List.getElem_cons_zero])
      refine wpAnyH_take (i := 8) (v := ?_) rfl (by kernel_rfl) (by kernel_rfl) (by kernel_rfl) (fun _ _ _ h => h) (Or.inl ⟨by rfl, ?_⟩) (by assumption) ?_
      rotate_left
      · ((intro w hSw); (first | (go_simp; done) | (go_simp; with_reducible rfl)))
      (try simp only [Act.put, List.setIfInBounds_toArray, List.set_cons_zero, List.set_cons_succ, List.getElem_toArray, List.getElem_cons_succ, List.getElem_cons_zero])
      refine wpAnyH_take (i := 9) (v := ?_) rfl (by kernel_rfl) (by kernel_rfl) (by kernel_rfl) (fun _ _ _ h => h) (Or.inl ⟨by rfl, ?_⟩) (by assumption) ?_
      rotate_left
      · ((intro w hSw); (first | (go_simp; done) | (go_simp; with_reducible rfl)))
      (try simp only [Act.put, List.setIfInBounds_toArray, List.set_cons_zero, List.set_cons_succ, List.getElem_toArray, List.getElem_cons_succ, List.getElem_cons_zero])
      refine wpAnyH_ready (rs := [10]) (by kernel_rfl) (by simp) ?_
      refine AllReadyH.cons rfl (fun K hK => ?_) (AllReadyH.nil)
      go_simp
      refine hK.out _ _ (rB3) (fun hHeld => ?_)
      clear hK K
      (try simp only [Act.put, List.setIfInBounds_toArray, List.set_cons_zero, List.set_cons_succ, List.getElem_toArray, List.getElem_cons_succ, List.getElem_cons_zero])
      refine wpAnyH_done (by kernel_rfl) ?_ _
      refine NoPanic.normal ?_
      have c32 : (w6.setCell ⟨r, 2, none⟩ (.slice lo6 (nn + 1) cap6)).cell? ⟨w3.heap.size, 32, none⟩ = some (.slice x.bo x.b.length x.cap) := by simpa using RC.slice HF.out.2.2.2
      clear rB0 rB1 rB2 rB3 x4 x5 s1 s2
      go_wp2
      go_ret2
      exact again_get HF.out.1 HF.out.2.1 HF.out.2.2.1 HSP.out.1 HO2.out HR.out
    · go_simp
      refine hK.out _ _ (by first | exact rB1 | exact rB0) (fun hHeld => ?_)
      clear hK K
      (try simp only [Act.put, List.setIfInBounds_toArray, List.set_cons_zero, List.set_cons_succ, List.getElem_toArray, List.getElem_cons_succ, List.getElem_cons_zero])
      refine wpAnyH_ready (rs := [4]) (by kernel_rfl) (by simp) ?_
      refine AllReadyH.cons rfl (fun K hK => ?_) (AllReadyH.nil)
      go_simp
      refine hK.out _ _ (by first | exact rB1 | exact rB0) (fun hHeld => ?_)
      clear hK K
      (try simp only [Act.put, List.setIfInBounds_toArray, List.set_cons_zero, List.set_cons_succ, List.getElem_toArray, List.getElem_cons_succ, List.getElem_cons_zero])
      refine wpAnyH_ready (rs := [7]) (by kernel_rfl) (by simp) ?_
      refine AllReadyH.cons rfl (fun K hK => ?_) (AllReadyH.nil)
      rw [if_pos (by rfl)]
      refine wp_append_run (.tmp 20) (.tmp 22) 59 59 rfl rfl _ _ (by rfl) (by rfl) _ _ HRUN.out ?_
      refine hK.out _ _ (rB2) (fun hHeld => ?_)
      clear hK K
      (try simp only [Act.put, List.setIfInBounds_toArray, List.set_cons_zero, List.set_cons_succ, List.getElem_toArray, List.getElem_cons_succ, List.getElem_cons_zero])
      refine wpAnyH_take (i := 8) (v := ?_) rfl (by kernel_rfl) (by kernel_rfl) (by kernel_rfl) (fun _ _ _ h => h) (Or.inl ⟨by rfl, ?_⟩) (by assumption) ?_
      rotate_left
      · ((intro w hSw); (first | (go_simp; done) | (go_simp; with_reducible rfl)))
      (try simp only [Act.put, List.setIfInBounds_toArray, List.set_cons_zero, List.set_cons_succ, List.getElem_toArray, List.getElem_cons_succ, List.getElem_cons_zero])
      refine wpAnyH_take (i := 9) (v := ?_) rfl (by kernel_rfl) (by kernel_rfl) (by kernel_rfl) (fun _ _ _ h => h) (Or.inl ⟨by rfl, ?_⟩) (by assumption) ?_
      rotate_left
      · ((intro w hSw); (first | (go_simp; done) | (go_simp; with_reducible rfl)))
      (try simp only [Act.put, List.setIfInBounds_toArray, List.set_cons_zero, List.set_cons_succ, List.getElem_toArray, List.getElem_cons_succ, List.getElem_cons_zero])
      refine wpAnyH_ready (rs := [10]) (by kernel_rfl) (by simp) ?_
      refine AllReadyH.cons rfl (fun K hK => ?_) (AllReadyH.nil)
      go_simp
      refine hK.out _ _ (rB3) (fun hHeld => ?_)
      clear hK K
      (try simp only [Act.put, List.setIfInBounds_toArray, List.set_cons_zero, List.set_cons_succ, List.getElem_toArray, List.getElem_cons_succ, List.getElem_cons_zero])
      refine wpAnyH_done (by kernel_rfl) ?_ _
      refine NoPanic.normal ?_
      have c32 : (w6.setCell ⟨r, 2, none⟩ (.slice lo6 (nn + 1) cap6)).cell? ⟨w3.heap.size, 32, none⟩ = some (.slice x.bo x.b.length x.cap) := by simpa using RC.slice HF.out.2.2.2
      clear rB0 rB1 rB2 rB3 x4 x5 s1 s2
      go_wp2
      go_ret2
      exact again_get HF.out.1 HF.out.2.1 HF.out.2.2.1 HSP.out.1 HO2.out HR.out
  · rw [h2]
    have HN := Lib.hid (ch_none h1)
    clear h1 h2
    go_wp2
    go_ret2
    have hd : dataOf k (R.map RC.ch) = [] := by unfold dataOf; rw [own_nil_of HN.out]; rfl
    refine ⟨none, 0, by rw [hd, getE_not HN.out]; rfl, by rw [hd]; exact fun j hj => by simp at hj, ?_, Only.mono HO2.out (fun _ _ h => h.elim)⟩
    rw [show touch k (R.map RC.ch) = R.map RC.ch by unfold touch; rw [oth_none HN.out, own_nil_of HN.out, List.append_nil]]
    exact ⟨R, v, rfl, (HR.out.only HO2.out).wide (fun y hy => Or.inl hy) (fun y hy => by
      rcases hy with hy | hy
      · exact (HR.out.only HO2.out).low y hy
      · exact ⟨Nat.le_trans (HR.out.low_base) hy.1, hy.2⟩)⟩
end Go.Proofs.Ytafeiankpckijaa
