/- Pieces of Put, in the document's store. -/
import Derived.Test.YtafeiankpckijaaRH
namespace Go.Proofs.Ytafeiankpckijaa
open Go.RowKit
set_option linter.unusedSimpArgs false
set_option linter.unusedVariables false
attribute [local go_sem ↓] Go.wp_at_zero Go.wp_at_succ
/-- What stands while a new list is made: the store, the bytes that came in, the digest's box; new blocks alone are written. -/
structure PS (W w0 w : World) (r most room k bk : Nat) (R : List RC) (v : Value) (G : Nat → Prop) (ao : Option Addr) (b : List Int) : Prop where
  ref : Ref W w r most room R v G
  bes : Beside (fun y => y < w0.heap.size) w0 w
  dat : DataAt w (fun y => y < W.heap.size) ao b
  box : w.rangeAt bk 0 (sumC k)
  bk : bk < w0.heap.size
  gl : ∀ y, G y → y < w0.heap.size
section
variable {W w0 w w' : World} {r most room k bk : Nat} {R : List RC} {v : Value} {G : Nat → Prop} {ao : Option Addr} {b : List Int}
theorem PS.new (h : PS W w0 w r most room k bk R v G ao b) (hb : Beside (fun y => y < w0.heap.size) w w') : PS W w0 w' r most room k bk R v G ao b := by
  have hW : W.heap.size ≤ w0.heap.size := Nat.le_of_lt (Nat.lt_of_le_of_lt (h.ref.low r h.ref.rG).1 (h.gl r h.ref.rG))
  exact ⟨h.ref.beside (Only.mono hb (fun y _ hn hg => hn (h.gl y hg))), h.bes.trans hb, fun j hj => by
    obtain ⟨ad, e1, e2, e3⟩ := h.dat j hj
    exact ⟨ad, e1, hb.cell e2 (by rw [add_block]; omega), e3⟩, rbeside h.box hb h.bk, h.bk, h.gl⟩
theorem PS.only (h : PS W w0 w r most room k bk R v G ao b) (ho : Only (fun _ => False) w w') : PS W w0 w' r most room k bk R v G ao b := h.new (Beside.of ho)
theorem PS.size (h : PS W w0 w r most room k bk R v G ao b) : w0.heap.size ≤ w.heap.size := Only.size h.bes
end
theorem own_empty (w : World) (B : Nat) (e : TypeId) (s : Nat) (hB : B ≤ w.heap.size) : (w.alloc (.cells #[] e)).ownsRow B e s (.slice (some ⟨w.heap.size, 0, none⟩) 0 0) 0 [] :=
  ⟨by simp, Or.inr ⟨w.heap.size, 0, #[], rfl, hB, heap_alloc_new _ _, Nat.le_refl _, by unfold maxLen; omega, by simp, by simp⟩⟩
theorem grown_beside {w w' : World} {B n s : Nat} {e : TypeId} {v : Value} {xs : List Value} (h : w.ownsRow B e s v n xs) (hg : w.grownBy w' v.ownBlock) : Beside (fun y => y < B) w w' :=
  ⟨hg.os, hg.tape, hg.output, hg.size, fun k hk hn => hg.block k hk (fun e => hn (fun hlt => by have := (h.lt k e.symm).1; omega))⟩
theorem own_diff {w : World} {B B' n n' s s' : Nat} {e e' : TypeId} {v v' : Value} {xs ys : List Value} (h : w.ownsRow B e s v n xs) (h' : w.ownsRow B' e' s' v' n' ys) (he : e ≠ e') : v.ownBlock = none ∨ v.ownBlock ≠ v'.ownBlock := by
  obtain ⟨-, h2 | ⟨g, cap, cur, rfl, hB, hg, -⟩⟩ := h
  · left; rw [h2.1]; rfl
  · right
    intro e2
    obtain ⟨-, h3 | ⟨g', cap', cur', rfl, hB', hg', -⟩⟩ := h'
    · rw [h3.1] at e2; cases e2
    · have : g = g' := by simpa [Value.ownBlock] using e2
      subst this
      rw [hg] at hg'
      simp at hg'
      exact he hg'.2
theorem infoAll5b : (Try.prog.info? 5).map (fun i => (i.zero, i.size, i.bytes)) = some (some (.int .u8 0), 1, 1) := by kernel_rfl
theorem run_append_zero {P : Program} {w : World} (base : Nat) (t ty e : TypeId) (i : TypeInfo) (size : Nat) (ht : P.underlying t = some (.slice e)) (hi : P.info? e = some i)
    (v : Value) (n : Nat) (xs : List Value) (hown : w.ownsRow base e size v n xs) (c : Nat) : (Builtin.append_ #[t, t] ty #[v, .slice none 0 c]).run P w = .ok v w := by
  rcases hown.2 with ⟨rfl, rfl⟩ | ⟨g, cap, cur, rfl, _, _, hnc, _⟩
  · simp [Builtin.append_, run_underlying ht, sizeOf, typeInfo, hi, Builtin.lenOf, Builtin.firstCells]
  · simp [Builtin.append_, run_underlying ht, sizeOf, typeInfo, hi, Builtin.lenOf, Builtin.firstCells, hnc, storeCells]
/-- append([]byte{}, data...): a copy of the bytes. -/
theorem bytes_app {w : World} {B : Nat} {F : Nat → Prop} {ao : Option Addr} {b : List Int} {v8 : Value} (h : w.ownsRow B 5 1 v8 0 []) (hd : DataAt w F ao b) (c : Nat) (hl : b.length ≤ 1000000) (hB : B ≤ w.heap.size) :
    ∃ lo cap w', (Builtin.append_ #[22, 22] 22 #[v8, .slice ao b.length c]).run Try.prog w = .ok (.slice lo b.length cap) w' ∧ w'.ownsRow B 5 1 (.slice lo b.length cap) b.length (b.map (Value.int .u8)) ∧ w.grownBy w' v8.ownBlock := by
  obtain ⟨i0, q1, q2, q3, q4⟩ := info_parts infoAll5b
  have hcase : (∃ ad, ao = some ad) ∨ ao = none := by cases ao <;> simp
  rcases hcase with ⟨ad, rfl⟩ | rfl
  · obtain ⟨v', w', hr, h2, h3, -⟩ := run_append_own (P := Try.prog) w B 22 22 5 i0 (.int .u8 0) 1 1 under22 q1 q2 q3 q4 (by rfl) (by omega) v8 0 [] h ad b.length c (b.map (Value.int .u8)) (by simp) (fun j u hj => by
      have hjl := (List.getElem?_eq_some_iff.1 hj).1
      simp at hjl
      obtain ⟨ad', e1, e2, -⟩ := hd j hjl
      obtain rfl : ad = ad' := by simpa using e1
      rw [e2, ← hj]; simp [List.getD, hjl]) (fun u hu => by obtain ⟨z, _, rfl⟩ := List.mem_map.1 hu; rfl) (by unfold maxLen; omega) (by omega) hB
    simp only [Nat.zero_add, List.nil_append] at h2
    obtain ⟨lo, cap, rfl⟩ := own_shape h2
    exact ⟨lo, cap, w', hr, h2, h3⟩
  · have hb : b = [] := by
      cases b with
      | nil => rfl
      | cons x b => obtain ⟨ad, e1, _⟩ := hd 0 (by simp); cases e1
    subst hb
    obtain ⟨lo, cap, rfl⟩ := own_shape h
    exact ⟨lo, cap, w, run_append_zero (P := Try.prog) B 22 22 5 i0 1 under22 q1 _ 0 [] h c, h, ⟨rfl, rfl, rfl, Nat.le_refl _, fun _ _ _ => rfl⟩⟩
theorem data_of_own {w : World} {B : Nat} {lo : Option Addr} {cap : Nat} {b : List Int} (h : w.ownsRow B 5 1 (.slice lo b.length cap) b.length (b.map (Value.int .u8))) : DataAt w (fun y => (Value.slice lo b.length cap).ownBlock = some y) lo b := fun j hj => by
  obtain ⟨-, h2 | ⟨g, cap', cur, hv, hB, hg, s1, s2, s3, s4⟩⟩ := h
  · omega
  simp only [Value.slice.injEq] at hv
  obtain ⟨rfl, -, rfl⟩ := hv
  refine ⟨_, rfl, ?_, rfl⟩
  have ha : (⟨g, 0, none⟩ : Addr).add j = ⟨g, j, none⟩ := by unfold Addr.add; split <;> simp_all
  rw [ha, cell_of_row _ _ _ _ _ _ hg]
  have e : (cur.toList.take (b.length * 1))[j]? = _ := congrArg (·[j]?) s4
  rw [List.getElem?_take_of_lt (by omega)] at e
  rw [show cur[j]? = cur.toList[j]? by simp, e]
  simp [List.getD, hj]
theorem build81_run (w : World) (k cap : Nat) (b : List Int) (lo : Option Addr) : (bldN 81 #[(0, .agg (sumC k).toArray), (1, .slice lo b.length cap)]).run Try.prog w = .ok (.agg (RC.cells ⟨k, b, 0, lo, cap⟩).toArray) w :=
  run_build w 81 _ _ (by kernel_rfl)
/-- A copy of the list. -/
theorem PS.copy {W w0 w : World} {r most room k bk : Nat} {R : List RC} {lo : Option Addr} {cap : Nat} {G : Nat → Prop} {ao : Option Addr} {b : List Int} {v1 : Value} (h : PS W w0 w r most room k bk R (.slice lo R.length cap) G ao b) (h1 : w.ownsRow w0.heap.size 81 34 v1 0 []) (hl : R.length ≤ 1000000) :
    ∃ v' w', (Builtin.append_ #[59, 59] 59 #[v1, .slice lo R.length cap]).run Try.prog w = .ok v' w' ∧ w'.ownsRow w0.heap.size 81 34 v' R.length (rcs R) ∧ w.grownBy w' v1.ownBlock := by
  obtain ⟨i0, q1, q2, q3, q4⟩ := info_parts infoZ81
  rcases h.ref.own with ⟨hlen, ⟨hv, hn⟩ | ⟨g, cap', cur, hv, -⟩⟩
  · simp only [Value.slice.injEq] at hv
    obtain ⟨rfl, hn', rfl⟩ := hv
    have e : R = [] := List.eq_nil_of_length_eq_zero hn
    subst e
    exact ⟨_, _, run_append_zero (P := Try.prog) w0.heap.size 59 59 81 i0 34 under59 q1 _ 0 [] h1 0, h1, ⟨rfl, rfl, rfl, Nat.le_refl _, fun _ _ _ => rfl⟩⟩
  · simp only [Value.slice.injEq] at hv
    obtain ⟨rfl, -, rfl⟩ := hv
    obtain ⟨v5, w5, hr5, hown5, hg5, -⟩ := run_append_own (P := Try.prog) w w0.heap.size 59 59 81 i0 (.agg Z81) 34 64 under59 q1 q2 q3 q4 (by rfl) (by omega) _ 0 [] h1 ⟨g, 0, none⟩ R.length cap (rcs R) (rcs_len R)
      (h.ref.own.cells (g := g) rfl) rcs_one (by unfold maxLen; omega) (by omega) h.size
    simp only [Nat.zero_add, List.nil_append] at hown5
    exact ⟨v5, w5, hr5, hown5, hg5⟩
/-- One chunk more, behind the copy. -/
theorem own_more {w : World} {B n : Nat} {R : List RC} {x : RC} {v5 : Value} (h : w.ownsRow B 81 34 v5 R.length (rcs R)) (hB : B ≤ w.heap.size) (hl : R.length ≤ 1000000) :
    ∃ lo cap w', (Builtin.append_ #[59, 59] 59 #[v5, .slice (some ⟨w.heap.size, 0, none⟩) 1 1]).run Try.prog (w.alloc (.cells x.cells.toArray 81)) = .ok (.slice lo (R.length + 1) cap) w' ∧ w'.ownsRow B 81 34 (.slice lo (R.length + 1) cap) (R.length + 1) (rcs (R ++ [x])) ∧ (w.alloc (.cells x.cells.toArray 81)).grownBy w' v5.ownBlock := by
  obtain ⟨i0, q1, q2, q3, q4⟩ := info_parts infoZ81
  have hx1 : rcs [x] = x.cells := by unfold rcs; simp
  have ho0 := (Only.refl (fun _ => False) w).alloc (.cells x.cells.toArray 81)
  obtain ⟨v6, w6, hr6, hown6, hg6, -⟩ := run_append_own (P := Try.prog) _ B 59 59 81 i0 (.agg Z81) 34 64 under59 q1 q2 q3 q4 (by rfl) (by omega) _ R.length (rcs R) (own_only h ho0) ⟨w.heap.size, 0, none⟩ 1 1 (rcs [x]) (by rw [hx1, RC.len])
    (fun j u hj => by
      have ha : (⟨w.heap.size, 0, none⟩ : Addr).add j = ⟨w.heap.size, j, none⟩ := by unfold Addr.add; split <;> simp_all
      rw [ha]
      rw [hx1] at hj
      have hc : (w.alloc (.cells x.cells.toArray 81)).cell? ⟨w.heap.size, j, none⟩ = _ := cell_of_row _ _ _ _ _ _ (heap_alloc_new _ _)
      rw [hc]; simpa using hj) rcs_one (by unfold maxLen; omega) (by omega) (Nat.le_trans hB ho0.size)
  rw [← rcs_app] at hown6
  obtain ⟨lo, cap, rfl⟩ := own_shape hown6
  exact ⟨lo, cap, w6, hr6, hown6, hg6⟩
end Go.Proofs.Ytafeiankpckijaa
