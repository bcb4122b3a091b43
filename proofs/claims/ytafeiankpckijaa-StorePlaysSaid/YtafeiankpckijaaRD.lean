/- The walk of drop, in the document's store. -/
import Derived.Test.YtafeiankpckijaaRB
namespace Go.Proofs.Ytafeiankpckijaa
open Go.RowKit
set_option linter.unusedSimpArgs false
set_option linter.unusedVariables false
attribute [local go_sem ↓] Go.wp_at_zero Go.wp_at_succ
theorem own_base {w : World} {B B' : Nat} {e : TypeId} {s n : Nat} {v : Value} {xs : List Value} (h : w.ownsRow B e s v n xs) (hB : B' ≤ B) : w.ownsRow B' e s v n xs := by
  obtain ⟨h1, h2 | ⟨g, cap, cur, hv, hb, hr⟩⟩ := h
  · exact ⟨h1, Or.inl h2⟩
  · exact ⟨h1, Or.inr ⟨g, cap, cur, hv, Nat.le_trans hB hb, hr⟩⟩
theorem own_shape {w : World} {B : Nat} {e : TypeId} {s n : Nat} {v : Value} {xs : List Value} (h : w.ownsRow B e s v n xs) : ∃ lo cap, v = .slice lo n cap := by
  obtain ⟨-, h2 | ⟨g, cap, cur, hv, -⟩⟩ := h
  · exact ⟨none, 0, by rw [h2.1, h2.2]⟩
  · exact ⟨_, cap, hv⟩
theorem Only.setCells_at {w0 w : World} {b : Nat} (h : Only (fun y => y = b) w0 w) : ∀ (vs : List Value) (o : Nat), Only (fun y => y = b) w0 (w.setCells b o vs)
  | [], _ => h
  | v :: vs, o => Only.setCells_at (h.setCell (p := ⟨b, o, none⟩) (Or.inl rfl) v) vs (o + 1)
theorem there_block {w w' : World} {b o n : Nat} (h : w.there b o n) (hb : w'.heap[b]? = w.heap[b]?) : w'.there b o n := fun j hj => by
  obtain ⟨h1, h2⟩ := h j hj
  exact ⟨by rw [World.cell?_of_block (w := w) (a := ⟨b, o + j, none⟩) hb]; exact h1, by rw [World.frozen?_of_block (w := w) (a := ⟨b, o + j, none⟩) hb]; exact h2⟩
theorem rbeside {w w' : World} {G : Nat → Prop} {g o : Nat} {cs : List Value} (h : w.rangeAt g o cs) (hb : Beside G w w') (hg : G g) : w'.rangeAt g o cs := fun j v hj => hb.cell (h j v hj) hg
theorem ronly {w w' : World} {g o : Nat} {cs : List Value} (h : w.rangeAt g o cs) (ho : Only (fun _ => False) w w') : w'.rangeAt g o cs := rbeside (G := fun _ => True) h (Beside.of ho) trivial
theorem RC.size (x : RC) : x.cells.toArray.size = 34 := by simp [RC.len]
def Z81 : Array Value := #[.int .u8 0, .int .u8 0, .int .u8 0, .int .u8 0, .int .u8 0, .int .u8 0, .int .u8 0, .int .u8 0, .int .u8 0, .int .u8 0, .int .u8 0, .int .u8 0, .int .u8 0, .int .u8 0, .int .u8 0, .int .u8 0, .int .u8 0, .int .u8 0, .int .u8 0, .int .u8 0, .int .u8 0, .int .u8 0, .int .u8 0, .int .u8 0, .int .u8 0, .int .u8 0, .int .u8 0, .int .u8 0, .int .u8 0, .int .u8 0, .int .u8 0, .int .u8 0, .slice none 0 0, .int .i64 0]
theorem infoZ81 : (Try.prog.info? 81).map (fun i => (i.zero, i.size, i.bytes)) = some (some (.agg Z81), 34, 64) := by kernel_rfl
theorem var_rc {w w2 : World} {x : RC} {C : Array Value} (hC : C.size = 34) (h : w2 = (w.alloc (.cells C 81)).setCells w.heap.size 0 x.cells) : w2.rangeAt w.heap.size 0 x.cells ∧ Only (fun _ => False) w w2 ∧ w.heap.size < w2.heap.size := by
  subst h
  have ht : (w.alloc (.cells C 81)).there w.heap.size 0 34 := by rw [← hC]; exact box_there w C 81
  have hr := World.rangeAt_setCells_same (w.alloc (.cells C 81)) w.heap.size 0 x.cells (by rw [RC.len]; exact ht)
  exact ⟨hr, Only.setCells_new ((Only.refl _ w).alloc _) (Nat.le_refl _) _ _, block_lt_of_cell (hr 0 _ (List.getElem?_eq_getElem (by rw [RC.len]; omega)))⟩
theorem wp_append_run {P : Program} {o : Oper} {a : Act} {w : World} {K : Act → World → Prop} {Q : Exit → Act → World → Prop} (s x : Operand) (t ty : TypeId)
    (ho : o.op = .call { callee := .builtin .append, args := #[s, x], argTypes := #[t, t] }) (hty : o.type = ty) (v u : Value) (hs : a.eval s = v) (hx : a.eval x = u) (v' : Value) (w' : World)
    (hr : (Builtin.append_ #[t, t] ty #[v, u]).run P w = .ok v' w') (h : K (a.put o.dst v') w') : o.wp P a w K Q := by
  subst hty
  unfold Oper.wp execOp
  simp only [ho, resolve, invoke, builtin, Sem.run_bind, Sem.run_pure, Result.andThen_ok, List.map_toArray, List.map_cons, List.map_nil, hs, hx, hr]
  exact h
set_option maxRecDepth 100000 in
set_option maxHeartbeats 8000000 in
theorem drop_any (W w : World) (r most room : Nat) (l t : List RC) (x : RC) (v : Value) (G : Nat → Prop) (h : Ref W w r most room (l ++ x :: t) v G) (hl : (l ++ x :: t).length ≤ 1000000) :
    Calls Try.prog 50 #[.pointer (some ⟨r, 0, none⟩), .int .i64 l.length] w fun e w' => e = .returned (.agg x.cells.toArray) ∧ ∃ v', Ref W w' r most room (l ++ t) v' (grow G w w') ∧ Only (fun y => y = r) w w' ∧ (∀ y ∈ l ++ x :: t, DataAt w' (fun q => G q ∧ q ≠ r) y.bo y.b) ∧ ∀ g, v'.ownBlock = some g → w.heap.size ≤ g := by
  obtain ⟨g, cap, rfl, hr⟩ := h.at (i := l.length) (x := x) (by simp)
  go_enter Try.func50, Try.ntmps50
  go_upto_region 1 with fail
  obtain ⟨w1, hw1⟩ : ∃ w1, w1 = w.alloc (.cells Z81 81) := ⟨_, rfl⟩
  refine (congrArg (Code.wp Try.prog _ _ _) hw1).mp ?_
  have ho1 : Only (fun _ => False) w w1 := by rw [hw1]; exact (Only.refl _ w).alloc _
  have ht1 : w1.there w.heap.size 0 34 := by rw [hw1]; exact box_there w Z81 81
  clear hw1
  have h1 := h.only ho1
  have h0lt := h.lt
  have hGw : ∀ y, G y → y < w.heap.size := fun y hy => (h.low y hy).2
  obtain ⟨dd, hu, hdr⟩ := under81
  have c2 := h1.c2
  have b1 : ((l.length : Nat) : Int) < ((l ++ x :: t).length : Int) := by simp; omega
  have b0 : (0 : Int) ≤ (l.length : Int) := by omega
  have HU := Lib.hid (And.intro hu hdr)
  have HR := Lib.hid (show w1.rangeAt g (l.length * 34) x.cells from fun j u hj => ho1.cell (hr j u hj) (fun h => h))
  have HI := Lib.hid (show (Try.prog.info? 81).map (·.size) = some x.cells.length by rw [info81, RC.len])
  have HT1 := Lib.hid ht1
  have HO1 := Lib.hid ho1
  have H1 := Lib.hid h1
  clear h h1 hr hu hdr ht1 ho1
  generalize hN : (l ++ x :: t).length = N at *
  go_wp2_with (first
    | ((with_reducible refine gate_load 81 rfl ?_); (refine wpList_load_mid rfl 81 _ rfl g (l.length * 34) (by rfl) x.cells dd HR.out HU.out.1 HU.out.2 HI.out ?_))
    | ((with_reducible refine gate_store 81 rfl ?_); go_must (refine wpList_store_whole rfl 81 _ _ rfl w1.heap.size 0 x.cells.toArray (by rfl) (by rfl) (by rw [RC.size]; exact box_there w1 _ 81) (by rw [RC.size]; exact info81) (by exact all_oneCell_toArray x.one) ?_); intro w2 hw2; have hv := var_rc rfl hw2; clear hw2; have HV2 := Lib.hid hv.1; have HO2 := Lib.hid hv.2; clear hv)
    | fail)
  have hd := (H1.out.only HO2.out.1).only (Only.refl (fun _ => False) w2).drew
  have hcap : N ≤ cap := by
    obtain ⟨-, e | ⟨g', cap', cur, hv, -, -, s1, -⟩⟩ := hd.own
    · simp at e
    · simp only [Value.slice.injEq] at hv; omega
  have hlt : l.length + 1 ≤ N := by rw [← hN]; simp
  have hNt : N - (l.length + 1) = t.length := by rw [← hN]; simp; omega
  obtain ⟨w3, hw3⟩ : ∃ w3, w3 = (w2.alloc (.cells #[] 81)).drew := ⟨_, rfl⟩
  have ho3 : Only (fun _ => False) w2.drew w3 := by
    rw [hw3]
    have h0 := ((Only.refl (fun _ => False) w2).alloc (.cells #[] 81)).drew
    exact ⟨h0.os, h0.tape, h0.output, h0.size, h0.block⟩
  have h3 := hd.only ho3
  obtain ⟨i0, q1, q2, q3, q4⟩ := info_parts infoZ81
  have hlowd : ∀ y, G y → y < w2.drew.heap.size := fun y hy => (hd.low y hy).2
  have hW3 : W.heap.size ≤ w2.drew.heap.size := Nat.le_of_lt (Nat.lt_of_le_of_lt (hd.low r hd.rG).1 (hd.low r hd.rG).2)
  have hown3 : w3.ownsRow w2.drew.heap.size 81 34 (.slice (some ⟨w2.drew.heap.size, 0, none⟩) 0 0) 0 [] := by
    refine ⟨rfl, Or.inr ⟨w2.drew.heap.size, 0, #[], rfl, Nat.le_refl _, ?_, Nat.le_refl _, by unfold maxLen; omega, rfl, rfl⟩⟩
    rw [hw3]; exact heap_alloc_new w2 _
  have hsrc := h3.own.cells (g := g) rfl
  have hcells : rcs (l ++ x :: t) = rcs l ++ (x.cells ++ rcs t) := by rw [rcs_app]; rfl
  obtain ⟨v5, w5, hr5, hown5, hg5, -⟩ := run_append_own (P := Try.prog) w3 w2.drew.heap.size 59 59 81 i0 (.agg Z81) 34 64 under59 q1 q2 q3 q4 (by rfl) (by omega) _ 0 [] hown3 ⟨g, 0, none⟩ l.length cap (rcs l) (rcs_len l)
    (fun j u hj => hsrc j u (by rw [hcells, List.getElem?_append_left (List.getElem?_eq_some_iff.1 hj).1]; exact hj)) rcs_one (by unfold maxLen; omega) (by omega) ho3.size
  simp only [Nat.zero_add, List.nil_append] at hown5
  have hb5 : Beside (fun y => y < w2.drew.heap.size) w3 w5 := ⟨hg5.os, hg5.tape, hg5.output, hg5.size, fun k hk hn => hg5.block k hk (fun e => by
    have : k = w2.drew.heap.size := by simpa [Value.ownBlock] using e
    exact hn (fun h => by omega))⟩
  have h5 := h3.beside (Only.mono hb5 (fun y _ hn hg => hn (hlowd y hg)))
  have hsrc5 := h5.own.cells (g := g) rfl
  obtain ⟨ad2, hif, hsrc2⟩ : ∃ ad2 : Addr, (if cap = l.length + 1 then some (⟨g, 0, none⟩ : Addr) else some ⟨g, (l.length + 1) * 34, none⟩) = some ad2 ∧ ∀ j u, (rcs t)[j]? = some u → w5.cell? (ad2.add j) = some u := by
    by_cases hc : cap = l.length + 1
    · refine ⟨_, if_pos hc, fun j u hj => ?_⟩
      have ht0 : t.length = 0 := by omega
      have := (List.getElem?_eq_some_iff.1 hj).1
      rw [rcs_len] at this; omega
    · refine ⟨_, if_neg hc, fun j u hj => ?_⟩
      have ha : (⟨g, (l.length + 1) * 34, none⟩ : Addr).add j = (⟨g, 0, none⟩ : Addr).add ((l.length + 1) * 34 + j) := by unfold Addr.add; split <;> split <;> simp_all
      rw [ha]
      refine hsrc5 _ u ?_
      rw [hcells, List.getElem?_append_right (by rw [rcs_len]; omega), List.getElem?_append_right (by rw [rcs_len, RC.len]; omega), rcs_len, RC.len]
      rw [show (l.length + 1) * 34 + j - l.length * 34 - 34 = j by omega]; exact hj
  obtain ⟨v6, w6, hr6, hown6, hg6, -⟩ := run_append_own (P := Try.prog) w5 w2.drew.heap.size 59 59 81 i0 (.agg Z81) 34 64 under59 q1 q2 q3 q4 (by rfl) (by omega) v5 l.length (rcs l) hown5 ad2 t.length (cap - (l.length + 1)) (rcs t) (rcs_len t) hsrc2 rcs_one (by unfold maxLen; omega) (by omega) (Nat.le_trans ho3.size hg5.size)
  obtain ⟨lo6, cap6, hv6s⟩ := own_shape hown6
  subst hv6s
  have hb6 : Beside (fun y => y < w2.drew.heap.size) w5 w6 := ⟨hg6.os, hg6.tape, hg6.output, hg6.size, fun k hk hn => hg6.block k hk (fun e => hn (fun h => by have := (hown5.lt k e.symm).1; omega))⟩
  have h6 := h5.beside (Only.mono hb6 (fun y _ hn hg => hn (hlowd y hg)))
  have hv6 := hown6.lt
  rw [← rcs_app] at hown6
  have hne6 : ∀ g', (Value.slice lo6 (l.length + t.length) cap6).ownBlock = some g' → g' ≠ r ∧ (G g' ∨ (Value.slice lo6 (l.length + t.length) cap6).ownBlock = some g') := fun g' hg' => ⟨fun e => by have := hlowd r hd.rG; have := (hv6 g' hg').1; omega, Or.inr hg'⟩
  have hlr : (l ++ t).length = l.length + t.length := List.length_append ..
  obtain ⟨s1, s2, s3, s4⟩ := ref_set (W := W) (R' := l ++ t) (v' := (.slice lo6 (l.length + t.length) cap6)) (G' := fun y => G y ∨ (Value.slice lo6 (l.length + t.length) cap6).ownBlock = some y) h6.hd (by rw [hlr]; exact own_base hown6 hW3) hne6 (Or.inl hd.rG)
    (fun y hy => (h6.data y (by rcases List.mem_append.1 hy with hy | hy <;> simp [hy])).mono (fun q hq => ⟨Or.inl hq.1, hq.2.1, fun e => by have := hlowd q hq.1; have := (hv6 q e).1; omega⟩))
    (fun y hy => h6.keys y (by rcases List.mem_append.1 hy with hy | hy <;> simp [hy]))
    (fun y hy => by rcases hy with hy | hy; exact ⟨(h6.low y hy).1, (h6.low y hy).2⟩; exact ⟨Nat.le_trans hW3 (hv6 y hy).1, (hv6 y hy).2⟩)
  have hd6 := h6.data
  have hwr : IntKind.i64.wrap ((l.length : Int) + 1) = ((l.length + 1 : Nat) : Int) := by simp [IntKind.wrap, IntKind.bits, IntKind.signed]; omega
  have x3 : (w2.alloc (.cells #[] 81)).cell? ⟨r, 2, none⟩ = some (.slice (some ⟨g, 0, none⟩) N cap) := by have := h3.c2; rw [hw3] at this; exact this
  have x5 := h5.c2
  have hc5 : Beside (fun y => y < w2.drew.heap.size ∧ y ≠ r) w3 w5 := Only.mono hb5 (fun y _ hn h => hn h.1)
  have hc6 : Beside (fun y => y < w2.drew.heap.size ∧ y ≠ r) w5 w6 := Only.mono hb6 (fun y _ hn h => hn h.1)
  have hc7 : Beside (fun y => y < w2.drew.heap.size ∧ y ≠ r) w6 (w6.setCell ⟨r, 2, none⟩ (.slice lo6 (l.length + t.length) cap6)) := Only.mono s4 (fun y _ e h => h.2 e)
  have hc3 : Beside (fun y => y < w2.drew.heap.size ∧ y ≠ r) w2 w3 := Beside.of ((Only.refl (fun _ => False) w2).drew.trans ho3)
  have hb27 := (hc3.trans (hc5.trans hc6)).trans hc7
  clear hc3 hc5 hc6 hc7
  have hrw : r < w.heap.size := h0lt
  have hw12 := HO1.out.size
  have hw22 := HO2.out.1.size
  have hwd2 : w2.drew.heap.size = w2.heap.size := rfl
  have hw1lt : w.heap.size < w1.heap.size := by have := block_lt_of_cell ((Option.isSome_iff_exists.1 (HT1.out 0 (by omega)).1).choose_spec); simpa using this
  generalize hW7 : w6.setCell ⟨r, 2, none⟩ (.slice lo6 (l.length + t.length) cap6) = W7 at s3 s4 hb27
  have hV7 : W7.rangeAt w1.heap.size 0 x.cells := rbeside HV2.out hb27 ⟨by have := HO2.out.2; omega, by omega⟩
  have hT7 : W7.there w.heap.size 0 34 := there_block HT1.out ((hb27.block w.heap.size (by omega) (fun hn => hn ⟨by omega, by omega⟩)).trans (HO2.out.1.block w.heap.size hw1lt (fun h => h)))
  have hoA : Only (fun y => y = r) w w3 := Only.mono (HO1.out.trans (HO2.out.1.trans ((Only.refl (fun _ => False) w2).drew.trans ho3))) (fun _ _ h => h.elim)
  have hoB : Only (fun y => y = r) w w5 := hoA.trans' hb5 (fun i hi hn => by exfalso; exact hn (by omega))
  have hoC : Only (fun y => y = r) w w6 := hoB.trans' hb6 (fun i hi hn => by exfalso; exact hn (by omega))
  have hoD : Only (fun y => y = r) w W7 := hoC.trans s4
  have HFIN := Lib.hid (show ∀ w8, w8 = W7.setCells w.heap.size 0 x.cells → w8.rangeAt w.heap.size 0 x.cells ∧ (∃ v', Ref W w8 r most room (l ++ t) v' (grow G w w8) ∧ Only (fun y => y = r) w w8 ∧ (∀ y ∈ l ++ x :: t, DataAt w8 (fun q => G q ∧ q ≠ r) y.bo y.b) ∧ ∀ g, v'.ownBlock = some g → w.heap.size ≤ g) from by
    rintro w8 rfl
    have ho8 : Only (fun y => y = w.heap.size) W7 (W7.setCells w.heap.size 0 x.cells) := Only.setCells_at (Only.refl _ _) _ _
    have hb8 : Beside (fun y => G y ∨ (Value.slice lo6 (l.length + t.length) cap6).ownBlock = some y) W7 (W7.setCells w.heap.size 0 x.cells) := Only.mono ho8 (fun y _ e hg => by
      subst e
      rcases hg with hg | hg
      · exact absurd (hGw _ hg) (by omega)
      · have := (hv6 _ hg).1; omega)
    have h8 := s3.beside hb8
    have hgr : ∀ y, (G y ∨ (Value.slice lo6 (l.length + t.length) cap6).ownBlock = some y) → grow G w (W7.setCells w.heap.size 0 x.cells) y := fun y hy => by
      rcases hy with hy | hy
      · exact Or.inl hy
      · exact Or.inr ⟨by have := (hv6 y hy).1; omega, (h8.low y (Or.inr hy)).2⟩
    have hs8 := (hoD.trans' ho8 (fun i hi e => by omega)).size
    refine ⟨World.rangeAt_setCells_same _ _ _ _ (by rw [RC.len]; exact hT7), _, h8.wide hgr (fun y hy => ?_), hoD.trans' ho8 (fun i hi e => by omega), fun z hz j hj => ?_, fun g hg => by have := (hv6 g hg).1; omega⟩
    · rcases hy with hy | hy
      · exact h8.low y (Or.inl hy)
      · exact ⟨by have := (s3.low r (Or.inl H1.out.rG)).1; omega, hy.2⟩
    · obtain ⟨ad, e1, e2, e3, e4, e5⟩ := hd6 z hz j hj
      have hbl := add_block ad j
      have e6 : W7.cell? (ad.add j) = some (.int .u8 (z.b.getD j 0)) := s4.cell e2 (by rw [hbl]; exact e4)
      have e7 := ho8.cell e6 (by rw [hbl]; have := hGw _ e3; omega)
      exact ⟨ad, e1, e7, e3, e4⟩)
  have HV7 := Lib.hid hV7
  have HT7 := Lib.hid hT7
  have x2 : w2.cell? ⟨r, 2, none⟩ = some (.slice (some ⟨g, 0, none⟩) N cap) := hd.c2
  have HRUN := Lib.hid (And.intro hr5 hr6)
  have HRR := Lib.hid (And.intro hb5 (And.intro hb6 ho3))
  have hcl : (l.length : Nat) ≤ cap := by omega
  have hbl2 : ((l.length + 1 : Nat) : Int) ≤ (N : Int) := by omega
  have hbl0 : (0 : Int) ≤ ((l.length + 1 : Nat) : Int) := by omega
  have hbl4 : (l.length : Int) + 1 ≤ (N : Int) := by omega
  have hbl5 : (0 : Int) ≤ (l.length : Int) + 1 := by omega
  have hbl3 : (l.length : Int) ≤ (cap : Int) := by omega
  clear hr5 hr6 hown5 hown6 hg5 hg6 hb5 hb6 h5 h6 hv6 hne6 s3 s4 hd6 hb27 hV7 hT7 hoA hoB hoC hoD hrw hw12 hw22 hwd2 hw1lt hGw h0lt hsrc hsrc5 hsrc2 hown3 h3 hcells hW3 hlowd hd ho3 q1 q2 q3 q4
  subst hw3
  refine wp_region_noPanic ?_
  refine wp_region_held_drew (S := (fun _ => True)) (by kernel_rfl) (trivial) (fun hHeld => ?_)
  refine wpAnyH_take (i := 0) (v := ?_) rfl (by kernel_rfl) (by kernel_rfl) (by kernel_rfl) (fun _ _ _ h => h) (Or.inl ⟨by rfl, ?_⟩) (by assumption) ?_
  rotate_left
  · ((intro w hSw); (first | (go_simp; done) | (go_simp; with_reducible rfl)))
  (try simp only [Act.put, List.setIfInBounds_toArray, List.set_cons_zero, List.set_cons_succ, List.getElem_toArray, List.getElem_cons_succ, List.getElem_cons_zero])
  refine wpAnyH_take (i := 2) (v := ?_) rfl (by kernel_rfl) (by kernel_rfl) (by kernel_rfl) (fun _ _ _ h => h) (Or.inl ⟨by rfl, ?_⟩) (by assumption) ?_
  rotate_left
  · ((intro w hSw); (first | (go_simp; done) | (go_simp; with_reducible rfl)))
  (try simp only [Act.put, List.setIfInBounds_toArray, List.set_cons_zero, List.set_cons_succ, List.getElem_toArray, List.getElem_cons_succ, List.getElem_cons_zero])
  refine wpAnyH_take (i := 3) (v := ?_) rfl (by kernel_rfl) (by kernel_rfl) (by kernel_rfl) (fun _ _ _ h => h) (Or.inl ⟨by rfl, ?_⟩) (by assumption) ?_
  rotate_left
  · ((intro w hSw); (first | (go_simp; done) | (go_simp; with_reducible rfl)))
  (try simp only [Act.put, List.setIfInBounds_toArray, List.set_cons_zero, List.set_cons_succ, List.getElem_toArray, List.getElem_cons_succ, List.getElem_cons_zero])
  refine wpAnyH_take (i := 4) (v := ?_) rfl (by kernel_rfl) (by kernel_rfl) (by kernel_rfl) (fun _ _ _ h => h) (Or.inl ⟨by rfl, ?_⟩) (by assumption) ?_
  rotate_left
  · ((intro w hSw); (first | (go_simp; done) | (go_simp; with_reducible rfl)))
  (try simp only [Act.put, List.setIfInBounds_toArray, List.set_cons_zero, List.set_cons_succ, List.getElem_toArray, List.getElem_cons_succ, List.getElem_cons_zero])
  refine wpAnyH_take (i := 6) (v := ?_) rfl (by kernel_rfl) (by kernel_rfl) (by kernel_rfl) (fun _ _ _ h => h) (Or.inl ⟨by rfl, ?_⟩) (by assumption) ?_
  rotate_left
  · ((intro w hSw); (first | (go_simp; done) | (go_simp; with_reducible rfl)))
  (try simp only [Act.put, List.setIfInBounds_toArray, List.set_cons_zero, List.set_cons_succ, List.getElem_toArray, List.getElem_cons_succ, List.getElem_cons_zero])
  refine wpAnyH_take (i := 9) (v := ?_) rfl (by kernel_rfl) (by kernel_rfl) (by kernel_rfl) (fun _ _ _ h => h) (Or.inl ⟨by rfl, ?_⟩) (by assumption) ?_
  rotate_left
  · ((intro w hSw); (first | (go_simp; done) | (go_simp; with_reducible rfl)))
  (try simp only [Act.put, List.setIfInBounds_toArray, List.set_cons_zero, List.set_cons_succ, List.getElem_toArray, List.getElem_cons_succ, List.getElem_cons_zero])
  refine wpAnyH_take (i := 10) (v := ?_) rfl (by kernel_rfl) (by kernel_rfl) (by kernel_rfl) (fun _ _ _ h => h) (Or.inl ⟨by rfl, ?_⟩) (by assumption) ?_
  rotate_left
  · ((intro w hSw); (first | (go_simp; done) | (go_simp; with_reducible rfl)))
  (try simp only [Act.put, List.setIfInBounds_toArray, List.set_cons_zero, List.set_cons_succ, List.getElem_toArray, List.getElem_cons_succ, List.getElem_cons_zero])
  refine wpAnyH_take (i := 11) (v := ?_) rfl (by kernel_rfl) (by kernel_rfl) (by kernel_rfl) (fun _ _ _ h => h) (Or.inl ⟨by rfl, ?_⟩) (by assumption) ?_
  rotate_left
  · ((intro w hSw); (first | (go_simp; done) | (go_simp; with_reducible rfl)))
  (try simp only [Act.put, List.setIfInBounds_toArray, List.set_cons_zero, List.set_cons_succ, List.getElem_toArray, List.getElem_cons_succ, List.getElem_cons_zero])
  refine wpAnyH_take (i := 13) (v := ?_) rfl (by kernel_rfl) (by kernel_rfl) (by kernel_rfl) (fun _ _ _ h => h) (Or.inl ⟨by rfl, ?_⟩) (by assumption) ?_
  rotate_left
  · ((intro w hSw); (first | (go_simp; done) | (go_simp; with_reducible rfl)))
  (try simp only [Act.put, List.setIfInBounds_toArray, List.set_cons_zero, List.set_cons_succ, List.getElem_toArray, List.getElem_cons_succ, List.getElem_cons_zero])
  refine wpAnyH_take (i := 14) (v := ?_) rfl (by kernel_rfl) (by kernel_rfl) (by kernel_rfl) (fun _ _ _ h => h) (Or.inl ⟨by rfl, ?_⟩) (by assumption) ?_
  rotate_left
  · ((intro w hSw); (first | (go_simp; done) | (go_simp; with_reducible rfl)))
  (try simp only [Act.put, List.setIfInBounds_toArray, List.set_cons_zero, List.set_cons_succ, List.getElem_toArray, List.getElem_cons_succ, List.getElem_cons_zero])
  refine wpAnyH_ready (rs := [1, 5, 12]) (by kernel_rfl) (by simp) ?_
  refine AllReadyH.cons rfl (fun K hK => ?_) (AllReadyH.cons rfl (fun K hK => ?_) (AllReadyH.cons rfl (fun K hK => ?_) (AllReadyH.nil)))
  · go_simp
    refine hK.out _ _ (trivial) (fun hHeld => ?_)
    clear hK K
    (try simp only [Act.put, List.setIfInBounds_toArray, List.set_cons_zero, List.set_cons_succ, List.getElem_toArray, List.getElem_cons_succ, List.getElem_cons_zero])
    refine wpAnyH_ready (rs := [5, 12]) (by kernel_rfl) (by simp) ?_
    refine AllReadyH.cons rfl (fun K hK => ?_) (AllReadyH.cons rfl (fun K hK => ?_) (AllReadyH.nil))
    · go_simp
      refine hK.out _ _ (trivial) (fun hHeld => ?_)
      clear hK K
      (try simp only [Act.put, List.setIfInBounds_toArray, List.set_cons_zero, List.set_cons_succ, List.getElem_toArray, List.getElem_cons_succ, List.getElem_cons_zero])
      refine wpAnyH_take (i := 7) (v := ?_) rfl (by kernel_rfl) (by kernel_rfl) (by kernel_rfl) (fun _ _ _ h => h) (Or.inl ⟨by rfl, ?_⟩) (by assumption) ?_
      rotate_left
      · ((intro w hSw); (first | (go_simp; done) | (go_simp; with_reducible rfl)))
      (try simp only [Act.put, List.setIfInBounds_toArray, List.set_cons_zero, List.set_cons_succ, List.getElem_toArray, List.getElem_cons_succ, List.getElem_cons_zero])
      refine wpAnyH_ready (rs := [8, 12]) (by kernel_rfl) (by simp) ?_
      refine AllReadyH.cons rfl (fun K hK => ?_) (AllReadyH.cons rfl (fun K hK => ?_) (AllReadyH.nil))
      · rw [if_pos (by rfl)]
        refine wp_append_run (.tmp 14) (.tmp 20) 59 59 rfl rfl _ _ (by rfl) (by rfl) _ _ HRUN.out.1 ?_
        refine hK.out _ _ (trivial) (fun hHeld => ?_)
        clear hK K
        (try simp only [Act.put, List.setIfInBounds_toArray, List.set_cons_zero, List.set_cons_succ, List.getElem_toArray, List.getElem_cons_succ, List.getElem_cons_zero])
        refine wpAnyH_ready (rs := [12]) (by kernel_rfl) (by simp) ?_
        refine AllReadyH.cons rfl (fun K hK => ?_) (AllReadyH.nil)
        go_simp
        refine hK.out _ _ (trivial) (fun hHeld => ?_)
        clear hK K
        (try simp only [Act.put, List.setIfInBounds_toArray, List.set_cons_zero, List.set_cons_succ, List.getElem_toArray, List.getElem_cons_succ, List.getElem_cons_zero])
        refine wpAnyH_take (i := 15) (v := ?_) rfl (by kernel_rfl) (by kernel_rfl) (by kernel_rfl) (fun _ _ _ h => h) (Or.inl ⟨by rfl, ?_⟩) (by assumption) ?_
        rotate_left
        · ((intro w hSw); (first | (go_simp; done) | (go_simp; with_reducible rfl)))
        (try simp only [Act.put, List.setIfInBounds_toArray, List.set_cons_zero, List.set_cons_succ, List.getElem_toArray, List.getElem_cons_succ, List.getElem_cons_zero])
        refine wpAnyH_ready (rs := [16]) (by kernel_rfl) (by simp) ?_
        refine AllReadyH.cons rfl (fun K hK => ?_) (AllReadyH.nil)
        rw [if_pos (by rfl)]
        refine wp_append_run (.tmp 21) (.tmp 28) 59 59 rfl rfl _ _ (by rfl) (by rfl) _ _ HRUN.out.2 ?_
        refine hK.out _ _ (trivial) (fun hHeld => ?_)
        clear hK K
        (try simp only [Act.put, List.setIfInBounds_toArray, List.set_cons_zero, List.set_cons_succ, List.getElem_toArray, List.getElem_cons_succ, List.getElem_cons_zero])
        refine wpAnyH_take (i := 17) (v := ?_) rfl (by kernel_rfl) (by kernel_rfl) (by kernel_rfl) (fun _ _ _ h => h) (Or.inl ⟨by rfl, ?_⟩) (by assumption) ?_
        rotate_left
        · ((intro w hSw); (first | (go_simp; done) | (go_simp; with_reducible rfl)))
        (try simp only [Act.put, List.setIfInBounds_toArray, List.set_cons_zero, List.set_cons_succ, List.getElem_toArray, List.getElem_cons_succ, List.getElem_cons_zero])
        refine wpAnyH_take (i := 18) (v := ?_) rfl (by kernel_rfl) (by kernel_rfl) (by kernel_rfl) (fun _ _ _ h => h) (Or.inl ⟨by rfl, ?_⟩) (by assumption) ?_
        rotate_left
        · ((intro w hSw); (first | (go_simp; done) | (go_simp; with_reducible rfl)))
        (try simp only [Act.put, List.setIfInBounds_toArray, List.set_cons_zero, List.set_cons_succ, List.getElem_toArray, List.getElem_cons_succ, List.getElem_cons_zero])
        refine wpAnyH_ready (rs := [19]) (by kernel_rfl) (by simp) ?_
        refine AllReadyH.cons rfl (fun K hK => ?_) (AllReadyH.nil)
        go_simp
        refine hK.out _ _ (trivial) (fun hHeld => ?_)
        clear hK K
        (try simp only [Act.put, List.setIfInBounds_toArray, List.set_cons_zero, List.set_cons_succ, List.getElem_toArray, List.getElem_cons_succ, List.getElem_cons_zero])
        refine wpAnyH_done (by kernel_rfl) ?_ _
        refine NoPanic.normal ?_
        clear x2 x3 x5 s1 s2
        (try rw [hW7])
        clear hW7
        go_wp2_with (first | ((with_reducible refine gate_load 81 rfl ?_); (refine wpList_load_mid rfl 81 _ rfl w1.heap.size 0 (by rfl) x.cells dd HV7.out HU.out.1 HU.out.2 HI.out ?_)) | ((with_reducible refine gate_store 81 rfl ?_); go_must (refine wpList_store_whole rfl 81 _ _ rfl w.heap.size 0 x.cells.toArray (by rfl) (by rfl) (by rw [RC.size]; exact HT7.out) (by rw [RC.size]; exact info81) (by exact all_oneCell_toArray x.one) ?_); intro w8 hw8; have HF := Lib.hid (HFIN.out w8 hw8); clear hw8) | fail)
        (try simp only [Exit.inBlock, Exit.then])
        refine bodyPost_ret (v := .agg x.cells.toArray) (results_cell_mid rfl _ _ w.heap.size _ _ (by rfl) HF.out.1 HU.out.1 HU.out.2 HI.out) rfl ?_
        exact ⟨rfl, HF.out.2⟩
      · go_simp
        refine hK.out _ _ (trivial) (fun hHeld => ?_)
        clear hK K
        (try simp only [Act.put, List.setIfInBounds_toArray, List.set_cons_zero, List.set_cons_succ, List.getElem_toArray, List.getElem_cons_succ, List.getElem_cons_zero])
        refine wpAnyH_take (i := 15) (v := ?_) rfl (by kernel_rfl) (by kernel_rfl) (by kernel_rfl) (fun _ _ _ h => h) (Or.inl ⟨by rfl, ?_⟩) (by assumption) ?_
        rotate_left
        · ((intro w hSw); (first | (go_simp; done) | (go_simp; with_reducible rfl)))
        (try simp only [Act.put, List.setIfInBounds_toArray, List.set_cons_zero, List.set_cons_succ, List.getElem_toArray, List.getElem_cons_succ, List.getElem_cons_zero])
        refine wpAnyH_ready (rs := [8]) (by kernel_rfl) (by simp) ?_
        refine AllReadyH.cons rfl (fun K hK => ?_) (AllReadyH.nil)
        rw [if_pos (by rfl)]
        refine wp_append_run (.tmp 14) (.tmp 20) 59 59 rfl rfl _ _ (by rfl) (by rfl) _ _ HRUN.out.1 ?_
        refine hK.out _ _ (trivial) (fun hHeld => ?_)
        clear hK K
        (try simp only [Act.put, List.setIfInBounds_toArray, List.set_cons_zero, List.set_cons_succ, List.getElem_toArray, List.getElem_cons_succ, List.getElem_cons_zero])
        refine wpAnyH_ready (rs := [16]) (by kernel_rfl) (by simp) ?_
        refine AllReadyH.cons rfl (fun K hK => ?_) (AllReadyH.nil)
        rw [if_pos (by rfl)]
        refine wp_append_run (.tmp 21) (.tmp 28) 59 59 rfl rfl _ _ (by rfl) (by rfl) _ _ HRUN.out.2 ?_
        refine hK.out _ _ (trivial) (fun hHeld => ?_)
        clear hK K
        (try simp only [Act.put, List.setIfInBounds_toArray, List.set_cons_zero, List.set_cons_succ, List.getElem_toArray, List.getElem_cons_succ, List.getElem_cons_zero])
        refine wpAnyH_take (i := 17) (v := ?_) rfl (by kernel_rfl) (by kernel_rfl) (by kernel_rfl) (fun _ _ _ h => h) (Or.inl ⟨by rfl, ?_⟩) (by assumption) ?_
        rotate_left
        · ((intro w hSw); (first | (go_simp; done) | (go_simp; with_reducible rfl)))
        (try simp only [Act.put, List.setIfInBounds_toArray, List.set_cons_zero, List.set_cons_succ, List.getElem_toArray, List.getElem_cons_succ, List.getElem_cons_zero])
        refine wpAnyH_take (i := 18) (v := ?_) rfl (by kernel_rfl) (by kernel_rfl) (by kernel_rfl) (fun _ _ _ h => h) (Or.inl ⟨by rfl, ?_⟩) (by assumption) ?_
        rotate_left
        · ((intro w hSw); (first | (go_simp; done) | (go_simp; with_reducible rfl)))
        (try simp only [Act.put, List.setIfInBounds_toArray, List.set_cons_zero, List.set_cons_succ, List.getElem_toArray, List.getElem_cons_succ, List.getElem_cons_zero])
        refine wpAnyH_ready (rs := [19]) (by kernel_rfl) (by simp) ?_
        refine AllReadyH.cons rfl (fun K hK => ?_) (AllReadyH.nil)
        go_simp
        refine hK.out _ _ (trivial) (fun hHeld => ?_)
        clear hK K
        (try simp only [Act.put, List.setIfInBounds_toArray, List.set_cons_zero, List.set_cons_succ, List.getElem_toArray, List.getElem_cons_succ, List.getElem_cons_zero])
        refine wpAnyH_done (by kernel_rfl) ?_ _
        refine NoPanic.normal ?_
        clear x2 x3 x5 s1 s2
        (try rw [hW7])
        clear hW7
        go_wp2_with (first | ((with_reducible refine gate_load 81 rfl ?_); (refine wpList_load_mid rfl 81 _ rfl w1.heap.size 0 (by rfl) x.cells dd HV7.out HU.out.1 HU.out.2 HI.out ?_)) | ((with_reducible refine gate_store 81 rfl ?_); go_must (refine wpList_store_whole rfl 81 _ _ rfl w.heap.size 0 x.cells.toArray (by rfl) (by rfl) (by rw [RC.size]; exact HT7.out) (by rw [RC.size]; exact info81) (by exact all_oneCell_toArray x.one) ?_); intro w8 hw8; have HF := Lib.hid (HFIN.out w8 hw8); clear hw8) | fail)
        (try simp only [Exit.inBlock, Exit.then])
        refine bodyPost_ret (v := .agg x.cells.toArray) (results_cell_mid rfl _ _ w.heap.size _ _ (by rfl) HF.out.1 HU.out.1 HU.out.2 HI.out) rfl ?_
        exact ⟨rfl, HF.out.2⟩
    · go_simp
      refine hK.out _ _ (trivial) (fun hHeld => ?_)
      clear hK K
      (try simp only [Act.put, List.setIfInBounds_toArray, List.set_cons_zero, List.set_cons_succ, List.getElem_toArray, List.getElem_cons_succ, List.getElem_cons_zero])
      refine wpAnyH_take (i := 15) (v := ?_) rfl (by kernel_rfl) (by kernel_rfl) (by kernel_rfl) (fun _ _ _ h => h) (Or.inl ⟨by rfl, ?_⟩) (by assumption) ?_
      rotate_left
      · ((intro w hSw); (first | (go_simp; done) | (go_simp; with_reducible rfl)))
      (try simp only [Act.put, List.setIfInBounds_toArray, List.set_cons_zero, List.set_cons_succ, List.getElem_toArray, List.getElem_cons_succ, List.getElem_cons_zero])
      refine wpAnyH_ready (rs := [5]) (by kernel_rfl) (by simp) ?_
      refine AllReadyH.cons rfl (fun K hK => ?_) (AllReadyH.nil)
      go_simp
      refine hK.out _ _ (trivial) (fun hHeld => ?_)
      clear hK K
      (try simp only [Act.put, List.setIfInBounds_toArray, List.set_cons_zero, List.set_cons_succ, List.getElem_toArray, List.getElem_cons_succ, List.getElem_cons_zero])
      refine wpAnyH_take (i := 7) (v := ?_) rfl (by kernel_rfl) (by kernel_rfl) (by kernel_rfl) (fun _ _ _ h => h) (Or.inl ⟨by rfl, ?_⟩) (by assumption) ?_
      rotate_left
      · ((intro w hSw); (first | (go_simp; done) | (go_simp; with_reducible rfl)))
      (try simp only [Act.put, List.setIfInBounds_toArray, List.set_cons_zero, List.set_cons_succ, List.getElem_toArray, List.getElem_cons_succ, List.getElem_cons_zero])
      refine wpAnyH_ready (rs := [8]) (by kernel_rfl) (by simp) ?_
      refine AllReadyH.cons rfl (fun K hK => ?_) (AllReadyH.nil)
      rw [if_pos (by rfl)]
      refine wp_append_run (.tmp 14) (.tmp 20) 59 59 rfl rfl _ _ (by rfl) (by rfl) _ _ HRUN.out.1 ?_
      refine hK.out _ _ (trivial) (fun hHeld => ?_)
      clear hK K
      (try simp only [Act.put, List.setIfInBounds_toArray, List.set_cons_zero, List.set_cons_succ, List.getElem_toArray, List.getElem_cons_succ, List.getElem_cons_zero])
      refine wpAnyH_ready (rs := [16]) (by kernel_rfl) (by simp) ?_
      refine AllReadyH.cons rfl (fun K hK => ?_) (AllReadyH.nil)
      rw [if_pos (by rfl)]
      refine wp_append_run (.tmp 21) (.tmp 28) 59 59 rfl rfl _ _ (by rfl) (by rfl) _ _ HRUN.out.2 ?_
      refine hK.out _ _ (trivial) (fun hHeld => ?_)
      clear hK K
      (try simp only [Act.put, List.setIfInBounds_toArray, List.set_cons_zero, List.set_cons_succ, List.getElem_toArray, List.getElem_cons_succ, List.getElem_cons_zero])
      refine wpAnyH_take (i := 17) (v := ?_) rfl (by kernel_rfl) (by kernel_rfl) (by kernel_rfl) (fun _ _ _ h => h) (Or.inl ⟨by rfl, ?_⟩) (by assumption) ?_
      rotate_left
      · ((intro w hSw); (first | (go_simp; done) | (go_simp; with_reducible rfl)))
      (try simp only [Act.put, List.setIfInBounds_toArray, List.set_cons_zero, List.set_cons_succ, List.getElem_toArray, List.getElem_cons_succ, List.getElem_cons_zero])
      refine wpAnyH_take (i := 18) (v := ?_) rfl (by kernel_rfl) (by kernel_rfl) (by kernel_rfl) (fun _ _ _ h => h) (Or.inl ⟨by rfl, ?_⟩) (by assumption) ?_
      rotate_left
      · ((intro w hSw); (first | (go_simp; done) | (go_simp; with_reducible rfl)))
      (try simp only [Act.put, List.setIfInBounds_toArray, List.set_cons_zero, List.set_cons_succ, List.getElem_toArray, List.getElem_cons_succ, List.getElem_cons_zero])
      refine wpAnyH_ready (rs := [19]) (by kernel_rfl) (by simp) ?_
      refine AllReadyH.cons rfl (fun K hK => ?_) (AllReadyH.nil)
      go_simp
      refine hK.out _ _ (trivial) (fun hHeld => ?_)
      clear hK K
      (try simp only [Act.put, List.setIfInBounds_toArray, List.set_cons_zero, List.set_cons_succ, List.getElem_toArray, List.getElem_cons_succ, List.getElem_cons_zero])
      refine wpAnyH_done (by kernel_rfl) ?_ _
      refine NoPanic.normal ?_
      clear x2 x3 x5 s1 s2
      (try rw [hW7])
      clear hW7
      go_wp2_with (first | ((with_reducible refine gate_load 81 rfl ?_); (refine wpList_load_mid rfl 81 _ rfl w1.heap.size 0 (by rfl) x.cells dd HV7.out HU.out.1 HU.out.2 HI.out ?_)) | ((with_reducible refine gate_store 81 rfl ?_); go_must (refine wpList_store_whole rfl 81 _ _ rfl w.heap.size 0 x.cells.toArray (by rfl) (by rfl) (by rw [RC.size]; exact HT7.out) (by rw [RC.size]; exact info81) (by exact all_oneCell_toArray x.one) ?_); intro w8 hw8; have HF := Lib.hid (HFIN.out w8 hw8); clear hw8) | fail)
      (try simp only [Exit.inBlock, Exit.then])
      refine bodyPost_ret (v := .agg x.cells.toArray) (results_cell_mid rfl _ _ w.heap.size _ _ (by rfl) HF.out.1 HU.out.1 HU.out.2 HI.out) rfl ?_
      exact ⟨rfl, HF.out.2⟩
  · go_simp
    refine hK.out _ _ (trivial) (fun hHeld => ?_)
    clear hK K
    (try simp only [Act.put, List.setIfInBounds_toArray, List.set_cons_zero, List.set_cons_succ, List.getElem_toArray, List.getElem_cons_succ, List.getElem_cons_zero])
    refine wpAnyH_take (i := 7) (v := ?_) rfl (by kernel_rfl) (by kernel_rfl) (by kernel_rfl) (fun _ _ _ h => h) (Or.inl ⟨by rfl, ?_⟩) (by assumption) ?_
    rotate_left
    · ((intro w hSw); (first | (go_simp; done) | (go_simp; with_reducible rfl)))
    (try simp only [Act.put, List.setIfInBounds_toArray, List.set_cons_zero, List.set_cons_succ, List.getElem_toArray, List.getElem_cons_succ, List.getElem_cons_zero])
    refine wpAnyH_ready (rs := [1, 12]) (by kernel_rfl) (by simp) ?_
    refine AllReadyH.cons rfl (fun K hK => ?_) (AllReadyH.cons rfl (fun K hK => ?_) (AllReadyH.nil))
    · go_simp
      refine hK.out _ _ (trivial) (fun hHeld => ?_)
      clear hK K
      (try simp only [Act.put, List.setIfInBounds_toArray, List.set_cons_zero, List.set_cons_succ, List.getElem_toArray, List.getElem_cons_succ, List.getElem_cons_zero])
      refine wpAnyH_ready (rs := [8, 12]) (by kernel_rfl) (by simp) ?_
      refine AllReadyH.cons rfl (fun K hK => ?_) (AllReadyH.cons rfl (fun K hK => ?_) (AllReadyH.nil))
      · rw [if_pos (by rfl)]
        refine wp_append_run (.tmp 14) (.tmp 20) 59 59 rfl rfl _ _ (by rfl) (by rfl) _ _ HRUN.out.1 ?_
        refine hK.out _ _ (trivial) (fun hHeld => ?_)
        clear hK K
        (try simp only [Act.put, List.setIfInBounds_toArray, List.set_cons_zero, List.set_cons_succ, List.getElem_toArray, List.getElem_cons_succ, List.getElem_cons_zero])
        refine wpAnyH_ready (rs := [12]) (by kernel_rfl) (by simp) ?_
        refine AllReadyH.cons rfl (fun K hK => ?_) (AllReadyH.nil)
        go_simp
        refine hK.out _ _ (trivial) (fun hHeld => ?_)
        clear hK K
        (try simp only [Act.put, List.setIfInBounds_toArray, List.set_cons_zero, List.set_cons_succ, List.getElem_toArray, List.getElem_cons_succ, List.getElem_cons_zero])
        refine wpAnyH_take (i := 15) (v := ?_) rfl (by kernel_rfl) (by kernel_rfl) (by kernel_rfl) (fun _ _ _ h => h) (Or.inl ⟨by rfl, ?_⟩) (by assumption) ?_
        rotate_left
        · ((intro w hSw); (first | (go_simp; done) | (go_simp; with_reducible rfl)))
        (try simp only [Act.put, List.setIfInBounds_toArray, List.set_cons_zero, List.set_cons_succ, List.getElem_toArray, List.getElem_cons_succ, List.getElem_cons_zero])
        refine wpAnyH_ready (rs := [16]) (by kernel_rfl) (by simp) ?_
        refine AllReadyH.cons rfl (fun K hK => ?_) (AllReadyH.nil)
        rw [if_pos (by rfl)]
        refine wp_append_run (.tmp 21) (.tmp 28) 59 59 rfl rfl _ _ (by rfl) (by rfl) _ _ HRUN.out.2 ?_
        refine hK.out _ _ (trivial) (fun hHeld => ?_)
        clear hK K
        (try simp only [Act.put, List.setIfInBounds_toArray, List.set_cons_zero, List.set_cons_succ, List.getElem_toArray, List.getElem_cons_succ, List.getElem_cons_zero])
        refine wpAnyH_take (i := 17) (v := ?_) rfl (by kernel_rfl) (by kernel_rfl) (by kernel_rfl) (fun _ _ _ h => h) (Or.inl ⟨by rfl, ?_⟩) (by assumption) ?_
        rotate_left
        · ((intro w hSw); (first | (go_simp; done) | (go_simp; with_reducible rfl)))
        (try simp only [Act.put, List.setIfInBounds_toArray, List.set_cons_zero, List.set_cons_succ, List.getElem_toArray, List.getElem_cons_succ, List.getElem_cons_zero])
        refine wpAnyH_take (i := 18) (v := ?_) rfl (by kernel_rfl) (by kernel_rfl) (by kernel_rfl) (fun _ _ _ h => h) (Or.inl ⟨by rfl, ?_⟩) (by assumption) ?_
        rotate_left
        · ((intro w hSw); (first | (go_simp; done) | (go_simp; with_reducible rfl)))
        (try simp only [Act.put, List.setIfInBounds_toArray, List.set_cons_zero, List.set_cons_succ, List.getElem_toArray, List.getElem_cons_succ, List.getElem_cons_zero])
        refine wpAnyH_ready (rs := [19]) (by kernel_rfl) (by simp) ?_
        refine AllReadyH.cons rfl (fun K hK => ?_) (AllReadyH.nil)
        go_simp
        refine hK.out _ _ (trivial) (fun hHeld => ?_)
        clear hK K
        (try simp only [Act.put, List.setIfInBounds_toArray, List.set_cons_zero, List.set_cons_succ, List.getElem_toArray, List.getElem_cons_succ, List.getElem_cons_zero])
        refine wpAnyH_done (by kernel_rfl) ?_ _
        refine NoPanic.normal ?_
        clear x2 x3 x5 s1 s2
        (try rw [hW7])
        clear hW7
        go_wp2_with (first | ((with_reducible refine gate_load 81 rfl ?_); (refine wpList_load_mid rfl 81 _ rfl w1.heap.size 0 (by rfl) x.cells dd HV7.out HU.out.1 HU.out.2 HI.out ?_)) | ((with_reducible refine gate_store 81 rfl ?_); go_must (refine wpList_store_whole rfl 81 _ _ rfl w.heap.size 0 x.cells.toArray (by rfl) (by rfl) (by rw [RC.size]; exact HT7.out) (by rw [RC.size]; exact info81) (by exact all_oneCell_toArray x.one) ?_); intro w8 hw8; have HF := Lib.hid (HFIN.out w8 hw8); clear hw8) | fail)
        (try simp only [Exit.inBlock, Exit.then])
        refine bodyPost_ret (v := .agg x.cells.toArray) (results_cell_mid rfl _ _ w.heap.size _ _ (by rfl) HF.out.1 HU.out.1 HU.out.2 HI.out) rfl ?_
        exact ⟨rfl, HF.out.2⟩
      · go_simp
        refine hK.out _ _ (trivial) (fun hHeld => ?_)
        clear hK K
        (try simp only [Act.put, List.setIfInBounds_toArray, List.set_cons_zero, List.set_cons_succ, List.getElem_toArray, List.getElem_cons_succ, List.getElem_cons_zero])
        refine wpAnyH_take (i := 15) (v := ?_) rfl (by kernel_rfl) (by kernel_rfl) (by kernel_rfl) (fun _ _ _ h => h) (Or.inl ⟨by rfl, ?_⟩) (by assumption) ?_
        rotate_left
        · ((intro w hSw); (first | (go_simp; done) | (go_simp; with_reducible rfl)))
        (try simp only [Act.put, List.setIfInBounds_toArray, List.set_cons_zero, List.set_cons_succ, List.getElem_toArray, List.getElem_cons_succ, List.getElem_cons_zero])
        refine wpAnyH_ready (rs := [8]) (by kernel_rfl) (by simp) ?_
        refine AllReadyH.cons rfl (fun K hK => ?_) (AllReadyH.nil)
        rw [if_pos (by rfl)]
        refine wp_append_run (.tmp 14) (.tmp 20) 59 59 rfl rfl _ _ (by rfl) (by rfl) _ _ HRUN.out.1 ?_
        refine hK.out _ _ (trivial) (fun hHeld => ?_)
        clear hK K
        (try simp only [Act.put, List.setIfInBounds_toArray, List.set_cons_zero, List.set_cons_succ, List.getElem_toArray, List.getElem_cons_succ, List.getElem_cons_zero])
        refine wpAnyH_ready (rs := [16]) (by kernel_rfl) (by simp) ?_
        refine AllReadyH.cons rfl (fun K hK => ?_) (AllReadyH.nil)
        rw [if_pos (by rfl)]
        refine wp_append_run (.tmp 21) (.tmp 28) 59 59 rfl rfl _ _ (by rfl) (by rfl) _ _ HRUN.out.2 ?_
        refine hK.out _ _ (trivial) (fun hHeld => ?_)
        clear hK K
        (try simp only [Act.put, List.setIfInBounds_toArray, List.set_cons_zero, List.set_cons_succ, List.getElem_toArray, List.getElem_cons_succ, List.getElem_cons_zero])
        refine wpAnyH_take (i := 17) (v := ?_) rfl (by kernel_rfl) (by kernel_rfl) (by kernel_rfl) (fun _ _ _ h => h) (Or.inl ⟨by rfl, ?_⟩) (by assumption) ?_
        rotate_left
        · ((intro w hSw); (first | (go_simp; done) | (go_simp; with_reducible rfl)))
        (try simp only [Act.put, List.setIfInBounds_toArray, List.set_cons_zero, List.set_cons_succ, List.getElem_toArray, List.getElem_cons_succ, List.getElem_cons_zero])
        refine wpAnyH_take (i := 18) (v := ?_) rfl (by kernel_rfl) (by kernel_rfl) (by kernel_rfl) (fun _ _ _ h => h) (Or.inl ⟨by rfl, ?_⟩) (by assumption) ?_
        rotate_left
        · ((intro w hSw); (first | (go_simp; done) | (go_simp; with_reducible rfl)))
        (try simp only [Act.put, List.setIfInBounds_toArray, List.set_cons_zero, List.set_cons_succ, List.getElem_toArray, List.getElem_cons_succ, List.getElem_cons_zero])
        refine wpAnyH_ready (rs := [19]) (by kernel_rfl) (by simp) ?_
        refine AllReadyH.cons rfl (fun K hK => ?_) (AllReadyH.nil)
        go_simp
        refine hK.out _ _ (trivial) (fun hHeld => ?_)
        clear hK K
        (try simp only [Act.put, List.setIfInBounds_toArray, List.set_cons_zero, List.set_cons_succ, List.getElem_toArray, List.getElem_cons_succ, List.getElem_cons_zero])
        refine wpAnyH_done (by kernel_rfl) ?_ _
        refine NoPanic.normal ?_
        clear x2 x3 x5 s1 s2
        (try rw [hW7])
        clear hW7
        go_wp2_with (first | ((with_reducible refine gate_load 81 rfl ?_); (refine wpList_load_mid rfl 81 _ rfl w1.heap.size 0 (by rfl) x.cells dd HV7.out HU.out.1 HU.out.2 HI.out ?_)) | ((with_reducible refine gate_store 81 rfl ?_); go_must (refine wpList_store_whole rfl 81 _ _ rfl w.heap.size 0 x.cells.toArray (by rfl) (by rfl) (by rw [RC.size]; exact HT7.out) (by rw [RC.size]; exact info81) (by exact all_oneCell_toArray x.one) ?_); intro w8 hw8; have HF := Lib.hid (HFIN.out w8 hw8); clear hw8) | fail)
        (try simp only [Exit.inBlock, Exit.then])
        refine bodyPost_ret (v := .agg x.cells.toArray) (results_cell_mid rfl _ _ w.heap.size _ _ (by rfl) HF.out.1 HU.out.1 HU.out.2 HI.out) rfl ?_
        exact ⟨rfl, HF.out.2⟩
    · go_simp
      refine hK.out _ _ (trivial) (fun hHeld => ?_)
      clear hK K
      (try simp only [Act.put, List.setIfInBounds_toArray, List.set_cons_zero, List.set_cons_succ, List.getElem_toArray, List.getElem_cons_succ, List.getElem_cons_zero])
      refine wpAnyH_take (i := 15) (v := ?_) rfl (by kernel_rfl) (by kernel_rfl) (by kernel_rfl) (fun _ _ _ h => h) (Or.inl ⟨by rfl, ?_⟩) (by assumption) ?_
      rotate_left
      · ((intro w hSw); (first | (go_simp; done) | (go_simp; with_reducible rfl)))
      (try simp only [Act.put, List.setIfInBounds_toArray, List.set_cons_zero, List.set_cons_succ, List.getElem_toArray, List.getElem_cons_succ, List.getElem_cons_zero])
      refine wpAnyH_ready (rs := [1]) (by kernel_rfl) (by simp) ?_
      refine AllReadyH.cons rfl (fun K hK => ?_) (AllReadyH.nil)
      go_simp
      refine hK.out _ _ (trivial) (fun hHeld => ?_)
      clear hK K
      (try simp only [Act.put, List.setIfInBounds_toArray, List.set_cons_zero, List.set_cons_succ, List.getElem_toArray, List.getElem_cons_succ, List.getElem_cons_zero])
      refine wpAnyH_ready (rs := [8]) (by kernel_rfl) (by simp) ?_
      refine AllReadyH.cons rfl (fun K hK => ?_) (AllReadyH.nil)
      rw [if_pos (by rfl)]
      refine wp_append_run (.tmp 14) (.tmp 20) 59 59 rfl rfl _ _ (by rfl) (by rfl) _ _ HRUN.out.1 ?_
      refine hK.out _ _ (trivial) (fun hHeld => ?_)
      clear hK K
      (try simp only [Act.put, List.setIfInBounds_toArray, List.set_cons_zero, List.set_cons_succ, List.getElem_toArray, List.getElem_cons_succ, List.getElem_cons_zero])
      refine wpAnyH_ready (rs := [16]) (by kernel_rfl) (by simp) ?_
      refine AllReadyH.cons rfl (fun K hK => ?_) (AllReadyH.nil)
      rw [if_pos (by rfl)]
      refine wp_append_run (.tmp 21) (.tmp 28) 59 59 rfl rfl _ _ (by rfl) (by rfl) _ _ HRUN.out.2 ?_
      refine hK.out _ _ (trivial) (fun hHeld => ?_)
      clear hK K
      (try simp only [Act.put, List.setIfInBounds_toArray, List.set_cons_zero, List.set_cons_succ, List.getElem_toArray, List.getElem_cons_succ, List.getElem_cons_zero])
      refine wpAnyH_take (i := 17) (v := ?_) rfl (by kernel_rfl) (by kernel_rfl) (by kernel_rfl) (fun _ _ _ h => h) (Or.inl ⟨by rfl, ?_⟩) (by assumption) ?_
      rotate_left
      · ((intro w hSw); (first | (go_simp; done) | (go_simp; with_reducible rfl)))
      (try simp only [Act.put, List.setIfInBounds_toArray, List.set_cons_zero, List.set_cons_succ, List.getElem_toArray, List.getElem_cons_succ, List.getElem_cons_zero])
      refine wpAnyH_take (i := 18) (v := ?_) rfl (by kernel_rfl) (by kernel_rfl) (by kernel_rfl) (fun _ _ _ h => h) (Or.inl ⟨by rfl, ?_⟩) (by assumption) ?_
      rotate_left
      · ((intro w hSw); (first | (go_simp; done) | (go_simp; with_reducible rfl)))
      (try simp only [Act.put, List.setIfInBounds_toArray, List.set_cons_zero, List.set_cons_succ, List.getElem_toArray, List.getElem_cons_succ, List.getElem_cons_zero])
      refine wpAnyH_ready (rs := [19]) (by kernel_rfl) (by simp) ?_
      refine AllReadyH.cons rfl (fun K hK => ?_) (AllReadyH.nil)
      go_simp
      refine hK.out _ _ (trivial) (fun hHeld => ?_)
      clear hK K
      (try simp only [Act.put, List.setIfInBounds_toArray, List.set_cons_zero, List.set_cons_succ, List.getElem_toArray, List.getElem_cons_succ, List.getElem_cons_zero])
      refine wpAnyH_done (by kernel_rfl) ?_ _
      refine NoPanic.normal ?_
      clear x2 x3 x5 s1 s2
      (try rw [hW7])
      clear hW7
      go_wp2_with (first | ((with_reducible refine gate_load 81 rfl ?_); (refine wpList_load_mid rfl 81 _ rfl w1.heap.size 0 (by rfl) x.cells dd HV7.out HU.out.1 HU.out.2 HI.out ?_)) | ((with_reducible refine gate_store 81 rfl ?_); go_must (refine wpList_store_whole rfl 81 _ _ rfl w.heap.size 0 x.cells.toArray (by rfl) (by rfl) (by rw [RC.size]; exact HT7.out) (by rw [RC.size]; exact info81) (by exact all_oneCell_toArray x.one) ?_); intro w8 hw8; have HF := Lib.hid (HFIN.out w8 hw8); clear hw8) | fail)
      (try simp only [Exit.inBlock, Exit.then])
      refine bodyPost_ret (v := .agg x.cells.toArray) (results_cell_mid rfl _ _ w.heap.size _ _ (by rfl) HF.out.1 HU.out.1 HU.out.2 HI.out) rfl ?_
      exact ⟨rfl, HF.out.2⟩
  · go_simp
    refine hK.out _ _ (trivial) (fun hHeld => ?_)
    clear hK K
    (try simp only [Act.put, List.setIfInBounds_toArray, List.set_cons_zero, List.set_cons_succ, List.getElem_toArray, List.getElem_cons_succ, List.getElem_cons_zero])
    refine wpAnyH_take (i := 15) (v := ?_) rfl (by kernel_rfl) (by kernel_rfl) (by kernel_rfl) (fun _ _ _ h => h) (Or.inl ⟨by rfl, ?_⟩) (by assumption) ?_
    rotate_left
    · ((intro w hSw); (first | (go_simp; done) | (go_simp; with_reducible rfl)))
    (try simp only [Act.put, List.setIfInBounds_toArray, List.set_cons_zero, List.set_cons_succ, List.getElem_toArray, List.getElem_cons_succ, List.getElem_cons_zero])
    refine wpAnyH_ready (rs := [1, 5]) (by kernel_rfl) (by simp) ?_
    refine AllReadyH.cons rfl (fun K hK => ?_) (AllReadyH.cons rfl (fun K hK => ?_) (AllReadyH.nil))
    · go_simp
      refine hK.out _ _ (trivial) (fun hHeld => ?_)
      clear hK K
      (try simp only [Act.put, List.setIfInBounds_toArray, List.set_cons_zero, List.set_cons_succ, List.getElem_toArray, List.getElem_cons_succ, List.getElem_cons_zero])
      refine wpAnyH_ready (rs := [5]) (by kernel_rfl) (by simp) ?_
      refine AllReadyH.cons rfl (fun K hK => ?_) (AllReadyH.nil)
      go_simp
      refine hK.out _ _ (trivial) (fun hHeld => ?_)
      clear hK K
      (try simp only [Act.put, List.setIfInBounds_toArray, List.set_cons_zero, List.set_cons_succ, List.getElem_toArray, List.getElem_cons_succ, List.getElem_cons_zero])
      refine wpAnyH_take (i := 7) (v := ?_) rfl (by kernel_rfl) (by kernel_rfl) (by kernel_rfl) (fun _ _ _ h => h) (Or.inl ⟨by rfl, ?_⟩) (by assumption) ?_
      rotate_left
      · ((intro w hSw); (first | (go_simp; done) | (go_simp; with_reducible rfl)))
      (try simp only [Act.put, List.setIfInBounds_toArray, List.set_cons_zero, List.set_cons_succ, List.getElem_toArray, List.getElem_cons_succ, List.getElem_cons_zero])
      refine wpAnyH_ready (rs := [8]) (by kernel_rfl) (by simp) ?_
      refine AllReadyH.cons rfl (fun K hK => ?_) (AllReadyH.nil)
      rw [if_pos (by rfl)]
      refine wp_append_run (.tmp 14) (.tmp 20) 59 59 rfl rfl _ _ (by rfl) (by rfl) _ _ HRUN.out.1 ?_
      refine hK.out _ _ (trivial) (fun hHeld => ?_)
      clear hK K
      (try simp only [Act.put, List.setIfInBounds_toArray, List.set_cons_zero, List.set_cons_succ, List.getElem_toArray, List.getElem_cons_succ, List.getElem_cons_zero])
      refine wpAnyH_ready (rs := [16]) (by kernel_rfl) (by simp) ?_
      refine AllReadyH.cons rfl (fun K hK => ?_) (AllReadyH.nil)
      rw [if_pos (by rfl)]
      refine wp_append_run (.tmp 21) (.tmp 28) 59 59 rfl rfl _ _ (by rfl) (by rfl) _ _ HRUN.out.2 ?_
      refine hK.out _ _ (trivial) (fun hHeld => ?_)
      clear hK K
      (try simp only [Act.put, List.setIfInBounds_toArray, List.set_cons_zero, List.set_cons_succ, List.getElem_toArray, List.getElem_cons_succ, List.getElem_cons_zero])
      refine wpAnyH_take (i := 17) (v := ?_) rfl (by kernel_rfl) (by kernel_rfl) (by kernel_rfl) (fun _ _ _ h => h) (Or.inl ⟨by rfl, ?_⟩) (by assumption) ?_
      rotate_left
      · ((intro w hSw); (first | (go_simp; done) | (go_simp; with_reducible rfl)))
      (try simp only [Act.put, List.setIfInBounds_toArray, List.set_cons_zero, List.set_cons_succ, List.getElem_toArray, List.getElem_cons_succ, List.getElem_cons_zero])
      refine wpAnyH_take (i := 18) (v := ?_) rfl (by kernel_rfl) (by kernel_rfl) (by kernel_rfl) (fun _ _ _ h => h) (Or.inl ⟨by rfl, ?_⟩) (by assumption) ?_
      rotate_left
      · ((intro w hSw); (first | (go_simp; done) | (go_simp; with_reducible rfl)))
      (try simp only [Act.put, List.setIfInBounds_toArray, List.set_cons_zero, List.set_cons_succ, List.getElem_toArray, List.getElem_cons_succ, List.getElem_cons_zero])
      refine wpAnyH_ready (rs := [19]) (by kernel_rfl) (by simp) ?_
      refine AllReadyH.cons rfl (fun K hK => ?_) (AllReadyH.nil)
      go_simp
      refine hK.out _ _ (trivial) (fun hHeld => ?_)
      clear hK K
      (try simp only [Act.put, List.setIfInBounds_toArray, List.set_cons_zero, List.set_cons_succ, List.getElem_toArray, List.getElem_cons_succ, List.getElem_cons_zero])
      refine wpAnyH_done (by kernel_rfl) ?_ _
      refine NoPanic.normal ?_
      clear x2 x3 x5 s1 s2
      (try rw [hW7])
      clear hW7
      go_wp2_with (first | ((with_reducible refine gate_load 81 rfl ?_); (refine wpList_load_mid rfl 81 _ rfl w1.heap.size 0 (by rfl) x.cells dd HV7.out HU.out.1 HU.out.2 HI.out ?_)) | ((with_reducible refine gate_store 81 rfl ?_); go_must (refine wpList_store_whole rfl 81 _ _ rfl w.heap.size 0 x.cells.toArray (by rfl) (by rfl) (by rw [RC.size]; exact HT7.out) (by rw [RC.size]; exact info81) (by exact all_oneCell_toArray x.one) ?_); intro w8 hw8; have HF := Lib.hid (HFIN.out w8 hw8); clear hw8) | fail)
      (try simp only [Exit.inBlock, Exit.then])
      refine bodyPost_ret (v := .agg x.cells.toArray) (results_cell_mid rfl _ _ w.heap.size _ _ (by rfl) HF.out.1 HU.out.1 HU.out.2 HI.out) rfl ?_
      exact ⟨rfl, HF.out.2⟩
    · go_simp
      refine hK.out _ _ (trivial) (fun hHeld => ?_)
      clear hK K
      (try simp only [Act.put, List.setIfInBounds_toArray, List.set_cons_zero, List.set_cons_succ, List.getElem_toArray, List.getElem_cons_succ, List.getElem_cons_zero])
      refine wpAnyH_take (i := 7) (v := ?_) rfl (by kernel_rfl) (by kernel_rfl) (by kernel_rfl) (fun _ _ _ h => h) (Or.inl ⟨by rfl, ?_⟩) (by assumption) ?_
      rotate_left
      · ((intro w hSw); (first | (go_simp; done) | (go_simp; with_reducible rfl)))
      (try simp only [Act.put, List.setIfInBounds_toArray, List.set_cons_zero, List.set_cons_succ, List.getElem_toArray, List.getElem_cons_succ, List.getElem_cons_zero])
      refine wpAnyH_ready (rs := [1]) (by kernel_rfl) (by simp) ?_
      refine AllReadyH.cons rfl (fun K hK => ?_) (AllReadyH.nil)
      go_simp
      refine hK.out _ _ (trivial) (fun hHeld => ?_)
      clear hK K
      (try simp only [Act.put, List.setIfInBounds_toArray, List.set_cons_zero, List.set_cons_succ, List.getElem_toArray, List.getElem_cons_succ, List.getElem_cons_zero])
      refine wpAnyH_ready (rs := [8]) (by kernel_rfl) (by simp) ?_
      refine AllReadyH.cons rfl (fun K hK => ?_) (AllReadyH.nil)
      rw [if_pos (by rfl)]
      refine wp_append_run (.tmp 14) (.tmp 20) 59 59 rfl rfl _ _ (by rfl) (by rfl) _ _ HRUN.out.1 ?_
      refine hK.out _ _ (trivial) (fun hHeld => ?_)
      clear hK K
      (try simp only [Act.put, List.setIfInBounds_toArray, List.set_cons_zero, List.set_cons_succ, List.getElem_toArray, List.getElem_cons_succ, List.getElem_cons_zero])
      refine wpAnyH_ready (rs := [16]) (by kernel_rfl) (by simp) ?_
      refine AllReadyH.cons rfl (fun K hK => ?_) (AllReadyH.nil)
      rw [if_pos (by rfl)]
      refine wp_append_run (.tmp 21) (.tmp 28) 59 59 rfl rfl _ _ (by rfl) (by rfl) _ _ HRUN.out.2 ?_
      refine hK.out _ _ (trivial) (fun hHeld => ?_)
      clear hK K
      (try simp only [Act.put, List.setIfInBounds_toArray, List.set_cons_zero, List.set_cons_succ, List.getElem_toArray, List.getElem_cons_succ, List.getElem_cons_zero])
      refine wpAnyH_take (i := 17) (v := ?_) rfl (by kernel_rfl) (by kernel_rfl) (by kernel_rfl) (fun _ _ _ h => h) (Or.inl ⟨by rfl, ?_⟩) (by assumption) ?_
      rotate_left
      · ((intro w hSw); (first | (go_simp; done) | (go_simp; with_reducible rfl)))
      (try simp only [Act.put, List.setIfInBounds_toArray, List.set_cons_zero, List.set_cons_succ, List.getElem_toArray, List.getElem_cons_succ, List.getElem_cons_zero])
      refine wpAnyH_take (i := 18) (v := ?_) rfl (by kernel_rfl) (by kernel_rfl) (by kernel_rfl) (fun _ _ _ h => h) (Or.inl ⟨by rfl, ?_⟩) (by assumption) ?_
      rotate_left
      · ((intro w hSw); (first | (go_simp; done) | (go_simp; with_reducible rfl)))
      (try simp only [Act.put, List.setIfInBounds_toArray, List.set_cons_zero, List.set_cons_succ, List.getElem_toArray, List.getElem_cons_succ, List.getElem_cons_zero])
      refine wpAnyH_ready (rs := [19]) (by kernel_rfl) (by simp) ?_
      refine AllReadyH.cons rfl (fun K hK => ?_) (AllReadyH.nil)
      go_simp
      refine hK.out _ _ (trivial) (fun hHeld => ?_)
      clear hK K
      (try simp only [Act.put, List.setIfInBounds_toArray, List.set_cons_zero, List.set_cons_succ, List.getElem_toArray, List.getElem_cons_succ, List.getElem_cons_zero])
      refine wpAnyH_done (by kernel_rfl) ?_ _
      refine NoPanic.normal ?_
      clear x2 x3 x5 s1 s2
      (try rw [hW7])
      clear hW7
      go_wp2_with (first | ((with_reducible refine gate_load 81 rfl ?_); (refine wpList_load_mid rfl 81 _ rfl w1.heap.size 0 (by rfl) x.cells dd HV7.out HU.out.1 HU.out.2 HI.out ?_)) | ((with_reducible refine gate_store 81 rfl ?_); go_must (refine wpList_store_whole rfl 81 _ _ rfl w.heap.size 0 x.cells.toArray (by rfl) (by rfl) (by rw [RC.size]; exact HT7.out) (by rw [RC.size]; exact info81) (by exact all_oneCell_toArray x.one) ?_); intro w8 hw8; have HF := Lib.hid (HFIN.out w8 hw8); clear hw8) | fail)
      (try simp only [Exit.inBlock, Exit.then])
      refine bodyPost_ret (v := .agg x.cells.toArray) (results_cell_mid rfl _ _ w.heap.size _ _ (by rfl) HF.out.1 HU.out.1 HU.out.2 HI.out) rfl ?_
      exact ⟨rfl, HF.out.2⟩
end Go.Proofs.Ytafeiankpckijaa
