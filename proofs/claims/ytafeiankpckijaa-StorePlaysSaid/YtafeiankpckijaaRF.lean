/- The walks of Pin and Unpin, in the document's store. -/
import Derived.Test.YtafeiankpckijaaRE
namespace Go.Proofs.Ytafeiankpckijaa
open Go.RowKit
set_option linter.unusedSimpArgs false
set_option linter.unusedVariables false
attribute [local go_sem ↓] Go.wp_at_zero Go.wp_at_succ
/-- A new list, in new blocks, is set into the document's store. -/
theorem ref_new {W w2 w6 : World} {r most room : Nat} {R R' : List RC} {v v' : Value} {G : Nat → Prop} (H : Ref W w2 r most room R v G) (hb : Beside (fun y => y < w2.heap.size) w2 w6) (own : w6.ownsRow w2.heap.size 81 34 v' R'.length (rcs R'))
    (data : ∀ x ∈ R', DataAt w6 (fun y => grow G w2 w6 y ∧ y ≠ r ∧ v'.ownBlock ≠ some y) x.bo x.b) (keys : ∀ x ∈ R', x.key < 65536) :
    w6.cell? ⟨r, 2, none⟩ = some v ∧ w6.frozen? ⟨r, 2, none⟩ = false ∧ Ref W (w6.setCell ⟨r, 2, none⟩ v') r most room R' v' (grow G w2 (w6.setCell ⟨r, 2, none⟩ v')) ∧ Only (fun y => y = r) w2 (w6.setCell ⟨r, 2, none⟩ v') := by
  have hlow := H.low
  have hrl := H.lt
  have hWl := H.low_base
  have hv := own.lt
  have hd6 : w6.heap[r]? = some (.cells (refHdr most room v) 61 (0, 0)) := (hb.block r hrl (fun hn => hn hrl)).trans H.hd
  have hs : w2.heap.size ≤ w6.heap.size := Only.size hb
  obtain ⟨s1, s2, s3, s4⟩ := ref_set (W := W) (R' := R') (v' := v') (G' := grow G w2 w6) hd6 (own_base own hWl)
    (fun g hg => ⟨fun e => by have := (hv g hg).1; omega, Or.inr (hv g hg)⟩) (Or.inl H.rG) data keys
    (fun y hy => by rcases hy with hy | hy; exact ⟨(hlow y hy).1, by have := (hlow y hy).2; omega⟩; exact ⟨by omega, hy.2⟩)
  have hsz : (w6.setCell ⟨r, 2, none⟩ v').heap.size = w6.heap.size := by simp [World.setCell]
  refine ⟨s1, s2, ?_, ?_⟩
  · have e : grow G w2 (w6.setCell ⟨r, 2, none⟩ v') = grow G w2 w6 := by unfold grow; rw [hsz]
    rw [e]; exact s3
  · exact ⟨s4.os.trans (Only.os hb), s4.tape.trans (Only.tape hb), s4.output.trans (Only.output hb), by omega, fun i hi hn => (s4.block i (by omega) hn).trans (hb.block i hi (fun h => h hi))⟩
/-- Old chunks' bytes, behind a new list. -/
theorem Ref.olddata {W w2 w6 : World} {r most room B : Nat} {R : List RC} {v v' : Value} {G : Nat → Prop} (H : Ref W w2 r most room R v G) (hb : Beside (fun y => y < w2.heap.size) w2 w6) (hv : ∀ g, v'.ownBlock = some g → w2.heap.size ≤ g) {x : RC} (hx : x ∈ R) :
    DataAt w6 (fun y => grow G w2 w6 y ∧ y ≠ r ∧ v'.ownBlock ≠ some y) x.bo x.b := fun j hj => by
  obtain ⟨ad, e1, e2, e3, e4, e5⟩ := H.data x hx j hj
  have hl := (H.low _ e3).2
  exact ⟨ad, e1, hb.cell e2 (by rw [add_block]; exact hl), Or.inl e3, e4, fun e => by have := hv _ e; omega⟩
theorem own_head {w : World} {B n s : Nat} {e : TypeId} {v : Value} {xs : List Value} (h : w.ownsRow B e s v n xs) (hn : 0 < n) : ∃ g cap, v = .slice (some ⟨g, 0, none⟩) n cap := by
  obtain ⟨-, h2 | ⟨g, cap, cur, hv, -⟩⟩ := h
  · omega
  · exact ⟨g, cap, hv⟩
/-- An empty list of chunks, and another one appended: a copy. -/
theorem copy_app {W w : World} {r most room : Nat} {R : List RC} {lo : Option Addr} {cap : Nat} {G : Nat → Prop} (h : Ref W w r most room R (.slice lo R.length cap) G) (hl : R.length ≤ 1000000) :
    ∃ v' w', (Builtin.append_ #[59, 59] 59 #[.slice (some ⟨w.heap.size, 0, none⟩) 0 0, .slice lo R.length cap]).run Try.prog (w.alloc (.cells #[] 81)) = .ok v' w' ∧ w'.ownsRow w.heap.size 81 34 v' R.length (rcs R) ∧ Beside (fun y => y < w.heap.size) w w' := by
  obtain ⟨i0, q1, q2, q3, q4⟩ := info_parts infoZ81
  have ho := (Only.refl (fun _ => False) w).alloc (.cells #[] 81)
  have hown : (w.alloc (.cells #[] 81)).ownsRow w.heap.size 81 34 (.slice (some ⟨w.heap.size, 0, none⟩) 0 0) 0 [] :=
    ⟨rfl, Or.inr ⟨w.heap.size, 0, #[], rfl, Nat.le_refl _, heap_alloc_new _ _, Nat.le_refl _, by unfold maxLen; omega, rfl, rfl⟩⟩
  have h1 := h.only ho
  have hbo : Beside (fun y => y < w.heap.size) w (w.alloc (.cells #[] 81)) := Beside.of ho
  rcases h1.own with ⟨hlen, ⟨hv, hn⟩ | ⟨g, cap', cur, hv, -⟩⟩
  · simp only [Value.slice.injEq] at hv
    obtain ⟨rfl, hn', rfl⟩ := hv
    have e : R = [] := List.eq_nil_of_length_eq_zero hn
    subst e
    exact ⟨_, _, run_append_owned_none (P := Try.prog) _ w.heap.size 59 59 81 i0 34 under59 q1 _ 0 [] hown, hown, hbo⟩
  · simp only [Value.slice.injEq] at hv
    obtain ⟨rfl, -, rfl⟩ := hv
    obtain ⟨v5, w5, hr5, hown5, hg5, -⟩ := run_append_own (P := Try.prog) (w.alloc (.cells #[] 81)) w.heap.size 59 59 81 i0 (.agg Z81) 34 64 under59 q1 q2 q3 q4 (by rfl) (by omega) _ 0 [] hown ⟨g, 0, none⟩ R.length cap (rcs R) (rcs_len R)
      (h1.own.cells (g := g) rfl) rcs_one (by unfold maxLen; omega) (by omega) (by simp)
    simp only [Nat.zero_add, List.nil_append] at hown5
    have hb5 : Beside (fun y => y < w.heap.size) (w.alloc (.cells #[] 81)) w5 := ⟨hg5.os, hg5.tape, hg5.output, hg5.size, fun k hk hn => hg5.block k hk (fun e => by
      have : k = w.heap.size := by simpa [Value.ownBlock] using e
      exact hn (fun h => by omega))⟩
    exact ⟨v5, w5, hr5, hown5, hbo.trans hb5⟩
theorem rcs_set {l t : List RC} {x : RC} (n : Nat) : (rcs (l ++ x :: t)).set (l.length * 34 + 33) (.int .i64 (n : Int)) = rcs (l ++ { x with pins := n } :: t) := by
  have e1 : ∀ y : RC, rcs (l ++ y :: t) = rcs l ++ (y.cells ++ rcs t) := fun y => by rw [rcs_app]; rfl
  rw [e1, e1, List.set_append, if_neg (by rw [rcs_len]; omega), rcs_len, show l.length * 34 + 33 - l.length * 34 = 33 by omega, List.set_append, if_pos (by rw [RC.len]; omega)]
  congr 2
theorem pinL_ch {k n : Nat} {f : Nat → Nat} {l t : List RC} {x : RC} (hx : x.key = k) (hl : ∀ y ∈ l, y.key ≠ k) (hnd : (((l ++ x :: t).map RC.ch).map (·.key)).Nodup) (hf : f x.pins = n) :
    pinL f k ((l ++ x :: t).map RC.ch) = (l ++ { x with pins := n } :: t).map RC.ch := by
  have h2 : ∀ y ∈ t, y.key ≠ k := fun y hy e => by
    rw [List.map_append, List.map_cons, List.map_append, List.map_cons, List.nodup_append, List.nodup_cons] at hnd
    refine hnd.2.1.1 (List.mem_map.2 ⟨y.ch, List.mem_map.2 ⟨y, hy, rfl⟩, ?_⟩)
    show y.key = x.key
    rw [e, hx]
  have id1 : ∀ R : List RC, (∀ y ∈ R, y.key ≠ k) → pinL f k (R.map RC.ch) = R.map RC.ch := fun R hR => pinL_id (fun c hc e => by
    obtain ⟨y, hy, rfl⟩ := List.mem_map.1 hc; exact absurd e (hR y hy))
  have app : ∀ A B : List Chunk, pinL f k (A ++ B) = pinL f k A ++ pinL f k B := fun A B => by unfold pinL; rw [List.map_append]
  rw [List.map_append, List.map_cons, app, id1 l hl, List.map_append, List.map_cons]
  congr 1
  show (if x.ch.key = k then _ else _) :: pinL f k (t.map RC.ch) = _
  rw [id1 t h2, if_pos (show x.ch.key = k from hx)]
  congr 1
  show (⟨x.key, x.b, f x.pins⟩ : Chunk) = ⟨x.key, x.b, n⟩
  rw [hf]
theorem wpList_append_run {P : Program} {ops : Array Oper} {rest : List Oper} {o : Oper} {a : Act} {w : World} {Q : Exit → Act → World → Prop} (hgd : o.guard = none) (s x : Operand) (t ty : TypeId)
    (ho : o.op = .call { callee := .builtin .append, args := #[s, x], argTypes := #[t, t] }) (hty : o.type = ty) (v u : Value) (hs : a.eval s = v) (hx : a.eval x = u) (v' : Value) (w' : World)
    (hr : (Builtin.append_ #[t, t] ty #[v, u]).run P w = .ok v' w') (h : wpList P ops Q rest (a.put o.dst v') w') : wpList P ops Q (o :: rest) a w :=
  wpList_plain hgd fun _ hK => wp_append_run s x t ty ho hty v u hs hx v' w' hr (hK _ _ h)
theorem gate_app (t : TypeId) {P : Program} {ops : Array Oper} {Q : Exit → Act → World → Prop} {o : Oper} {rest : List Oper} {a : Act} {W : World} {s x : Operand} (_ : o.op = .call { callee := .builtin .append, args := #[s, x], argTypes := #[t, t] }) (h : wpList P ops Q (o :: rest) a W) : wpList P ops Q (o :: rest) a W := h
set_option maxRecDepth 100000 in
set_option maxHeartbeats 4000000 in
theorem rpin_any (W w : World) (r most room k : Nat) (L : List Chunk) (G : Nat → Prop) (h : RefL W w r most room L G) (hk : k < 65536) (hl : L.length ≤ 64) (hnd : (L.map (·.key)).Nodup) (hpl : ∀ x ∈ L, x.pins < 1000000000) :
    Calls Try.prog 32 #[.pointer (some ⟨r, 0, none⟩), Sum_ k] w fun e w' => e = .returned (.int .i64 (getE k L)) ∧ RefL W w' r most room (pinL (· + 1) k L) (grow G w w') ∧ Only (fun y => y = r) w w' := by
  obtain ⟨R, v, rfl, hR⟩ := h
  have ho1 := (Only.refl (fun _ => False) w).alloc (.cells (sumC k).toArray 38)
  have KP := Lib.hid (place_any W _ r most room k R v G (hR.only ho1) hk (by rw [List.length_map] at hl; omega))
  have HB := Lib.hid (box_range w (sumC k) 38)
  have HI := Lib.hid (infoSum k)
  have HO := Lib.hid ho1
  have HR := Lib.hid hR
  clear hR ho1
  unfold Sum_
  go_enter Try.func32, Try.ntmps32
  go_wp2_with (first | ((with_reducible refine gate_load 38 rfl ?_); (refine wpList_load_mid rfl 38 _ rfl w.heap.size 0 (by rfl) (sumC k) _ HB.out under38 rfl HI.out ?_)) | fail)
  refine KP.out.mono ?_
  rintro e w2 ⟨rfl, ho2⟩
  have HO2 := Lib.hid (HO.out.trans ho2)
  clear ho2 KP
  have hlR : R.length ≤ 1000000 := by rw [List.length_map] at hl; omega
  rcases place_cases k R with ⟨l, x, t, rfl, h2, h3, h4⟩ | ⟨h1, h2⟩
  · rw [h4]
    have hR2 := HR.out.only HO2.out
    obtain ⟨lo, cap, rfl⟩ := hR2.row
    obtain ⟨v5, w5, hr5, hown5, hb5⟩ := copy_app hR2 hlR
    have b1 : (l.length : Int) < ((l ++ x :: t).length : Int) := by simp; omega
    have hN1 : l.length + 1 + t.length = (l ++ x :: t).length := by simp; omega
    generalize hNN : (l ++ x :: t).length = N at *
    have hN : 0 < N := by omega
    obtain ⟨g5, cap5, hv5⟩ := own_head hown5 hN
    subst hv5
    have hcell := hown5.cellAt (l.length * 34 + 33) (by omega)
    have hget : (rcs (l ++ x :: t))[l.length * 34 + 33]? = some (.int .i64 (x.pins : Int)) := by
      rw [rcs_get (x := x) (by simp) (by omega)]
      unfold RC.cells; rw [List.getElem?_append_right (by rw [sumC_len]; omega), sumC_len]; rfl
    rw [hget] at hcell
    have hfro := hown5.frozenAt (l.length * 34 + 33)
    have b0 : (0 : Int) ≤ (l.length : Int) := by omega
    have hx64 := hpl x.ch (by simp)
    have hx65 : x.pins < 1000000000 := hx64
    obtain ⟨hown6, hg6⟩ := hown5.stored (l.length * 34 + 33) (.int .i64 ((x.pins + 1 : Nat) : Int))
    rw [rcs_set] at hown6
    have hlen : (l ++ { x with pins := x.pins + 1 } :: t).length = N := by rw [← hNN]; simp
    have hlt6 := hown6.lt
    have hb6 : Beside (fun y => y < w2.heap.size) w2 (w5.setCell ⟨g5, l.length * 34 + 33, none⟩ (.int .i64 ((x.pins + 1 : Nat) : Int))) := hb5.trans ⟨hg6.os, hg6.tape, hg6.output, hg6.size, fun q hq hn => hg6.block q hq (fun e => hn (fun h => by
      have : q = g5 := by simpa using e
      have := (hlt6 g5 rfl).1; omega))⟩
    have hsub : ∀ y ∈ l ++ { x with pins := x.pins + 1 } :: t, ∃ z ∈ l ++ x :: t, z.key = y.key ∧ z.bo = y.bo ∧ z.b = y.b := fun y hy => by
      simp only [List.mem_append, List.mem_cons] at hy
      rcases hy with hy | hy | hy
      · exact ⟨y, by simp [hy], rfl, rfl, rfl⟩
      · subst hy; exact ⟨x, by simp, rfl, rfl, rfl⟩
      · exact ⟨y, by simp [hy], rfl, rfl, rfl⟩
    obtain ⟨s1, s2, s3, s4⟩ := ref_new (R' := l ++ { x with pins := x.pins + 1 } :: t) hR2 hb6 (by rw [hlen]; exact hown6)
      (fun y hy => by obtain ⟨z, hz, e1, e2, e3⟩ := hsub y hy; rw [← e2, ← e3]; exact hR2.olddata (B := 0) hb6 (fun g hg => (hlt6 g hg).1) hz)
      (fun y hy => by obtain ⟨z, hz, e1, e2, e3⟩ := hsub y hy; rw [← e1]; exact hR2.keys z hz)
    have hgo := grow_of HO2.out (G := G) s4.size
    have HF := Lib.hid (And.intro (s3.wide hgo (fun y hy => by
      rcases hy with hy | hy
      · exact s3.low y (Or.inl hy)
      · exact ⟨Nat.le_trans (HR.out.low_base) hy.1, hy.2⟩)) ((Only.mono HO2.out (fun _ _ h => h.elim)).trans s4))
    have HC := Lib.hid (And.intro (ch_split h2 h3 hnd).1 (pinL_ch (f := (· + 1)) (n := x.pins + 1) h2 h3 hnd rfl))
    have x2 := hR2.c2
    have x3 : (w2.alloc (.cells #[] 81)).cell? ⟨r, 2, none⟩ = some _ := (hR2.only ((Only.refl (fun _ => False) w2).alloc (.cells #[] 81))).c2
    have bneg : decide ((l.length : Int) < 0) = false := decide_eq_false (by omega)
    have HRUN := Lib.hid hr5
    have c5 : w5.cell? ⟨r, 2, none⟩ = some _ := hb5.cell x2 hR2.lt
    have hcast : ((x.pins + 1 : Nat) : Int) = (x.pins : Int) + 1 := by omega
    rw [hcast] at s1 s2 HF
    clear hr5 hown5 hown6 hb5 hb6 hg6 hlt6 hsub s3 s4 hgo hR2 h2 h3 h4 hget hlen hN hN1 hNN hcast
    go_wp2_with (first | ((with_reducible refine gate_app 59 rfl ?_); (refine wpList_append_run rfl (.tmp 12) (.tmp 16) 59 59 rfl rfl _ _ (by rfl) (by rfl) _ _ HRUN.out ?_)) | fail)
    go_ret
    exact ⟨by rw [getE_has HC.out.1]; rfl, ⟨_, _, HC.out.2.symm, HF.out.1⟩, HF.out.2⟩
  · rw [h2]
    have HN := Lib.hid (ch_none h1)
    clear h1 h2
    go_wp2
    go_ret
    refine ⟨by rw [getE_not HN.out]; rfl, ?_, Only.mono HO2.out (fun _ _ h => h.elim)⟩
    rw [pinL_id (fun c hc e => absurd (List.mem_map.2 ⟨c, hc, e⟩) (has_iff'.1 HN.out))]
    exact ⟨R, v, rfl, (HR.out.only HO2.out).wide (fun y hy => Or.inl hy) (fun y hy => by
      rcases hy with hy | hy
      · exact (HR.out.only HO2.out).low y hy
      · exact ⟨Nat.le_trans (HR.out.low_base) hy.1, hy.2⟩)⟩
set_option maxRecDepth 100000 in
set_option maxHeartbeats 4000000 in
theorem runpin_any (W w : World) (r most room k : Nat) (L : List Chunk) (G : Nat → Prop) (h : RefL W w r most room L G) (hk : k < 65536) (hl : L.length ≤ 64) (hnd : (L.map (·.key)).Nodup) (hpl : ∀ x ∈ L, x.pins < 1000000000) :
    Calls Try.prog 33 #[.pointer (some ⟨r, 0, none⟩), Sum_ k] w fun e w' => e = .returned (.int .i64 (unpinE k L)) ∧ RefL W w' r most room (pinL (· - 1) k L) (grow G w w') ∧ Only (fun y => y = r) w w' := by
  obtain ⟨R, v, rfl, hR⟩ := h
  have ho1 := (Only.refl (fun _ => False) w).alloc (.cells (sumC k).toArray 38)
  have KP := Lib.hid (place_any W _ r most room k R v G (hR.only ho1) hk (by rw [List.length_map] at hl; omega))
  have HB := Lib.hid (box_range w (sumC k) 38)
  have HI := Lib.hid (infoSum k)
  have HO := Lib.hid ho1
  have HR := Lib.hid hR
  clear hR ho1
  unfold Sum_
  go_enter Try.func33, Try.ntmps33
  go_wp2_with (first | ((with_reducible refine gate_load 38 rfl ?_); (refine wpList_load_mid rfl 38 _ rfl w.heap.size 0 (by rfl) (sumC k) _ HB.out under38 rfl HI.out ?_)) | fail)
  refine KP.out.mono ?_
  rintro e w2 ⟨rfl, ho2⟩
  have HO2 := Lib.hid (HO.out.trans ho2)
  clear ho2 KP
  have hlR : R.length ≤ 1000000 := by rw [List.length_map] at hl; omega
  rcases place_cases k R with ⟨l, x, t, rfl, h2, h3, h4⟩ | ⟨h1, h2⟩
  · rw [h4]
    have hR2 := HR.out.only HO2.out
    obtain ⟨lo, cap, rfl⟩ := hR2.row
    obtain ⟨v5, w5, hr5, hown5, hb5⟩ := copy_app hR2 hlR
    have b1 : (l.length : Int) < ((l ++ x :: t).length : Int) := by simp; omega
    have hN1 : l.length + 1 + t.length = (l ++ x :: t).length := by simp; omega
    generalize hNN : (l ++ x :: t).length = N at *
    have hN : 0 < N := by omega
    obtain ⟨g5, cap5, hv5⟩ := own_head hown5 hN
    subst hv5
    have hcell := hown5.cellAt (l.length * 34 + 33) (by omega)
    have hget : (rcs (l ++ x :: t))[l.length * 34 + 33]? = some (.int .i64 (x.pins : Int)) := by
      rw [rcs_get (x := x) (by simp) (by omega)]
      unfold RC.cells; rw [List.getElem?_append_right (by rw [sumC_len]; omega), sumC_len]; rfl
    rw [hget] at hcell
    have hfro := hown5.frozenAt (l.length * 34 + 33)
    have b0 : (0 : Int) ≤ (l.length : Int) := by omega
    have hx64 := hpl x.ch (by simp)
    have hx65 : x.pins < 1000000000 := hx64
    have HPO := Lib.hid (show pinsOf k ((l ++ x :: t).map RC.ch) = x.pins from by unfold pinsOf; rw [(ch_split h2 h3 hnd).2.2]; rfl)
    by_cases hp0 : x.pins = 0
    · have HZ := Lib.hid (And.intro (ch_split h2 h3 hnd).1 (And.intro hp0 (pinL_ch (f := (· - 1)) (n := 0) h2 h3 hnd (by rw [hp0]))))
      have ho5 : Only (fun _ => False) w2 w5 := ⟨Only.os hb5, Only.tape hb5, Only.output hb5, Only.size hb5, fun i hi _ => Only.block hb5 i hi (fun h => h hi)⟩
      have HO5 := Lib.hid ho5
      have HF0 := Lib.hid (hR2.only ho5)
      have x2 := hR2.c2
      have x3 : (w2.alloc (.cells #[] 81)).cell? ⟨r, 2, none⟩ = some _ := (hR2.only ((Only.refl (fun _ => False) w2).alloc (.cells #[] 81))).c2
      have bneg : decide ((l.length : Int) < 0) = false := decide_eq_false (by omega)
      have HRUN := Lib.hid hr5
      have hpc : w5.cell? ⟨g5, l.length * 34 + 33, none⟩ = some (.int .i64 0) := by rw [hcell, hp0]; rfl
      clear hr5 hown5 hb5 hR2 h2 h3 h4 hget hN hN1 hcell hx64 hx65 ho5
      go_wp2_with (first | ((with_reducible refine gate_app 59 rfl ?_); (refine wpList_append_run rfl (.tmp 12) (.tmp 16) 59 59 rfl rfl _ _ (by rfl) (by rfl) _ _ HRUN.out ?_)) | fail)
      go_ret
      refine ⟨by rw [unpinE_zero HZ.out.1 (by rw [HPO.out, HZ.out.2.1])]; rfl, ⟨_, _, ?_, HF0.out.wide (fun y hy => Or.inl hy) (fun y hy => ?_)⟩, Only.mono (HO2.out.trans HO5.out) (fun _ _ h => h.elim)⟩
      · rw [HZ.out.2.2]
        have e : ({ x with pins := 0 } : RC) = x := by cases x; simp at *; exact HZ.out.2.1.symm
        rw [e]
      · rcases hy with hy | hy
        · exact HF0.out.low y hy
        · exact ⟨Nat.le_trans (HR.out.low_base) hy.1, hy.2⟩
    have hp0' : 0 < x.pins := by omega
    have bp0 : ((x.pins : Int) == 0) = false := by rw [beq_eq_false_iff_ne]; omega
    have bp1 : (x.pins == 0) = false := by rw [beq_eq_false_iff_ne]; omega
    obtain ⟨hown6, hg6⟩ := hown5.stored (l.length * 34 + 33) (.int .i64 ((x.pins - 1 : Nat) : Int))
    rw [rcs_set] at hown6
    have hlen : (l ++ { x with pins := x.pins - 1 } :: t).length = N := by rw [← hNN]; simp
    have hlt6 := hown6.lt
    have hb6 : Beside (fun y => y < w2.heap.size) w2 (w5.setCell ⟨g5, l.length * 34 + 33, none⟩ (.int .i64 ((x.pins - 1 : Nat) : Int))) := hb5.trans ⟨hg6.os, hg6.tape, hg6.output, hg6.size, fun q hq hn => hg6.block q hq (fun e => hn (fun h => by
      have : q = g5 := by simpa using e
      have := (hlt6 g5 rfl).1; omega))⟩
    have hsub : ∀ y ∈ l ++ { x with pins := x.pins - 1 } :: t, ∃ z ∈ l ++ x :: t, z.key = y.key ∧ z.bo = y.bo ∧ z.b = y.b := fun y hy => by
      simp only [List.mem_append, List.mem_cons] at hy
      rcases hy with hy | hy | hy
      · exact ⟨y, by simp [hy], rfl, rfl, rfl⟩
      · subst hy; exact ⟨x, by simp, rfl, rfl, rfl⟩
      · exact ⟨y, by simp [hy], rfl, rfl, rfl⟩
    obtain ⟨s1, s2, s3, s4⟩ := ref_new (R' := l ++ { x with pins := x.pins - 1 } :: t) hR2 hb6 (by rw [hlen]; exact hown6)
      (fun y hy => by obtain ⟨z, hz, e1, e2, e3⟩ := hsub y hy; rw [← e2, ← e3]; exact hR2.olddata (B := 0) hb6 (fun g hg => (hlt6 g hg).1) hz)
      (fun y hy => by obtain ⟨z, hz, e1, e2, e3⟩ := hsub y hy; rw [← e1]; exact hR2.keys z hz)
    have hgo := grow_of HO2.out (G := G) s4.size
    have HF := Lib.hid (And.intro (s3.wide hgo (fun y hy => by
      rcases hy with hy | hy
      · exact s3.low y (Or.inl hy)
      · exact ⟨Nat.le_trans (HR.out.low_base) hy.1, hy.2⟩)) ((Only.mono HO2.out (fun _ _ h => h.elim)).trans s4))
    have HC := Lib.hid (And.intro (ch_split h2 h3 hnd).1 (pinL_ch (f := (· - 1)) (n := x.pins - 1) h2 h3 hnd rfl))
    have x2 := hR2.c2
    have x3 : (w2.alloc (.cells #[] 81)).cell? ⟨r, 2, none⟩ = some _ := (hR2.only ((Only.refl (fun _ => False) w2).alloc (.cells #[] 81))).c2
    have bneg : decide ((l.length : Int) < 0) = false := decide_eq_false (by omega)
    have HRUN := Lib.hid hr5
    have c5 : w5.cell? ⟨r, 2, none⟩ = some _ := hb5.cell x2 hR2.lt
    have hcast : ((x.pins - 1 : Nat) : Int) = (x.pins : Int) - 1 := by omega
    rw [hcast] at s1 s2 HF
    clear hr5 hown5 hown6 hb5 hb6 hg6 hlt6 hsub s3 s4 hgo hR2 h2 h3 h4 hget hlen hN hN1 hNN hcast
    go_wp2_with (first | ((with_reducible refine gate_app 59 rfl ?_); (refine wpList_append_run rfl (.tmp 12) (.tmp 16) 59 59 rfl rfl _ _ (by rfl) (by rfl) _ _ HRUN.out ?_)) | fail)
    go_ret
    exact ⟨by rw [unpinE_yes (n := x.pins - 1) HC.out.1 (by rw [HPO.out]; omega)]; rfl, ⟨_, _, HC.out.2.symm, HF.out.1⟩, HF.out.2⟩
  · rw [h2]
    have HN := Lib.hid (ch_none h1)
    clear h1 h2
    go_wp2
    go_ret
    refine ⟨by rw [unpinE_not HN.out]; rfl, ?_, Only.mono HO2.out (fun _ _ h => h.elim)⟩
    rw [pinL_id (fun c hc e => absurd (List.mem_map.2 ⟨c, hc, e⟩) (has_iff'.1 HN.out))]
    exact ⟨R, v, rfl, (HR.out.only HO2.out).wide (fun y hy => Or.inl hy) (fun y hy => by
      rcases hy with hy | hy
      · exact (HR.out.only HO2.out).low y hy
      · exact ⟨Nat.le_trans (HR.out.low_base) hy.1, hy.2⟩)⟩
end Go.Proofs.Ytafeiankpckijaa
