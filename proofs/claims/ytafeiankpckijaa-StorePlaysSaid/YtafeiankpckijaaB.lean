/- The walks of the store's inner functions. -/
import Derived.Test.YtafeiankpckijaaA
namespace Go.Proofs.Ytafeiankpckijaa
open Go.RowKit
set_option linter.unusedSimpArgs false
set_option linter.unusedVariables false
attribute [local go_sem ↓] Go.wp_at_zero Go.wp_at_succ
set_option maxHeartbeats 400000 in
theorem made_any (a gm : Nat) (w : World) (h4 : w.cell? ⟨a, 4, none⟩ = some (.map (some gm))) :
    Calls Try.prog 45 #[.pointer (some ⟨a, 0, none⟩)] w fun e w' => e = .returned (.bool true) ∧ w = w' := by
  have hq := fun (w : World) => run_neq_map_nil (P := Try.prog) w 30 38 3 (some gm) under30
  go_enter Try.func45, Try.ntmps45
  go_wp2
  go_ret
  exact ⟨rfl, rfl⟩

section
variable {P : Program} {ops : Array Oper} {rest : List Oper} {o : Oper} {a : Act} {Q : Exit → Act → World → Prop} {W : World}
/-- The operation is a load, or a store, of this type: a cheap look ahead of a dear step. -/
theorem gate_load (ty : TypeId) {x : Operand} (_ : o.op = .load ty x) (h : wpList P ops Q (o :: rest) a W) : wpList P ops Q (o :: rest) a W := h
theorem gate_store (ty : TypeId) {x y : Operand} (_ : o.op = .store ty x y) (h : wpList P ops Q (o :: rest) a W) : wpList P ops Q (o :: rest) a W := h
end
/-- A struct's copy in a new block. -/
theorem box_there (w : World) (Z : Array Value) (t : TypeId) : (w.alloc (.cells Z t)).there w.heap.size 0 Z.size := fun j hj => by
  have hh := heap_alloc_new w (.cells Z t)
  constructor
  · rw [cell_of_row _ _ _ _ _ _ hh]; simp; omega
  · exact frozen_of_row _ _ _ _ _ hh
/-- A struct goes into the variable that was just made for it. -/
theorem wpList_store_box {P : Program} {ops : Array Oper} {rest : List Oper} {op : Oper} {a : Act} {Q : Exit → Act → World → Prop} (hgd : op.guard = none) (ty : TypeId) (x y : Operand) (ho : op.op = .store ty x y)
    (W : World) (Z : Array Value) (t : TypeId) (cells : Array Value) (hx : a.eval x = .pointer (some ⟨W.heap.size, 0, none⟩)) (hy : a.eval y = .agg cells) (hz : Z.size = cells.size)
    (hi : (P.info? ty).map (·.size) = some cells.size) (h1 : cells.all (·.oneCell') = true)
    (h : ∀ w1, w1.heap.size = W.heap.size + 1 → w1.heap[W.heap.size]? = some (.cells cells t (0, 0)) → Only (fun _ => False) W w1 → wpList P ops Q rest (a.put op.dst undef) w1) : wpList P ops Q (op :: rest) a (W.alloc (.cells Z t)) := by
  refine wpList_store_mid hgd ty x y ho W.heap.size 0 cells hx hy (hz ▸ box_there W Z t) hi h1 (h _ ?_ ?_ ?_)
  all_goals obtain ⟨e1, e2, e3, e4, e5, cur', e6, e7, e8⟩ := setCells_block W.heap.size t cells.toList 0 (W.alloc (.cells Z t)) Z (heap_alloc_new _ _) (by simp; omega)
  · rw [e1]; simp
  · rw [e6]
    have : cur' = cells := by
      apply Array.ext (by omega)
      intro j h1 h2
      have := e8 j
      rw [if_pos (by simp; omega)] at this
      simpa [h1, h2] using this
    rw [this]
  · exact ⟨e2, e3, e4, by rw [e1]; simp, fun k hk _ => (e5 k (by omega)).trans (Below.heap_alloc _ _ _ hk)⟩

theorem boxed {w : World} {g : Nat} {c : C} {i : Nat} (hb : w.heap[g]? = some (.cells (c.slot i).toArray 75 (0, 0))) (hk : (c.key i).length = 32) :
    w.cell? ⟨g, 34, none⟩ = some (.int .i64 (c.prev i)) ∧ w.cell? ⟨g, 35, none⟩ = some (.int .i64 (c.next i)) := by
  constructor <;> rw [cell_of_row _ _ _ _ _ _ hb] <;> simp [C.slot, hk]
theorem Mem.only {w w1 : World} {a : Nat} {c : C} (h : Mem w a c) (ho : Only (fun _ => False) w w1) : Mem w1 a c :=
  h.frame (fun k hk => ho.block k (by rcases hk with rfl | rfl | rfl | rfl; exact h.lt_a; exact h.lt_gs; exact h.lt_gf; exact h.lt_gm) (fun h => h))
theorem cell_off {w : World} {b o o' : Nat} {v : Value} (h : o ≠ o') : (w.setCell ⟨b, o, none⟩ v).cell? ⟨b, o', none⟩ = w.cell? ⟨b, o', none⟩ := World.cell?_setCell_other _ _ _ _ (fun e => h (by cases e; rfl))
/-- What 'unlink' makes of the numbers. -/
def C.unlink (c : C) (i : Nat) : C :=
  { c with old := if c.prev i = -1 then c.next i else c.old, next := if c.prev i = -1 then c.next else upd c.next (c.prev i).toNat (c.next i),
           young := if c.next i = -1 then c.prev i else c.young, prev := if c.next i = -1 then c.prev else upd c.prev (c.next i).toNat (c.prev i) }

set_option maxHeartbeats 1000000 in
theorem unlink_11 (w : World) (a : Nat) (c : C) (i : Nat) (h : Mem w a c) (hi : i < c.n) (hp : c.prev i = -1) (hn : c.next i = -1) :
    Calls Try.prog 43 #[.pointer (some ⟨a, 0, none⟩), .int .i64 i] w fun e w' => e = .returned (.tuple #[]) ∧ Mem w' a (c.unlink i) ∧ Only (fun k => k = a ∨ k = c.gs) w w' := by
  have hu1 : c.unlink i = { c with old := -1, young := -1 } := by simp [C.unlink, hp, hn]
  have h0 := h.cslots
  have hsl := h.slot i hi
  obtain ⟨d, hu, hr⟩ := under75
  have hlen : (c.slot i).length = 36 := by have := h.key i hi; simp [C.slot, this]
  have hi' : (Try.prog.info? 75).map (·.size) = some (c.slot i).length := by rw [info75, hlen]
  have hi2 : (Try.prog.info? 75).map (·.size) = some (c.slot i).toArray.size := by rw [info75]; simp [hlen]
  have hone := all_oneCell_toArray (h.one i hi)
  have HI := Lib.hid hi'; clear hi'
  have HI2 := Lib.hid hi2; clear hi2
  have HO := Lib.hid hone; clear hone
  have HL := Lib.hid hlen; clear hlen
  have HSL := Lib.hid hsl; clear hsl
  have HU := Lib.hid hu; clear hu
  have HR := Lib.hid hr; clear hr
  have H := Lib.hid h; clear h
  have HP := Lib.hid hp; clear hp
  have HN := Lib.hid hn; clear hn
  have HU1 := Lib.hid hu1; clear hu1
  have hna : a ≠ w.heap.size := Nat.ne_of_lt H.out.lt_a
  have hng : c.gs ≠ w.heap.size := Nat.ne_of_lt H.out.lt_gs
  have hag : a ≠ c.gs := H.out.n1
  have hga : c.gs ≠ a := Ne.symm hag
  have b0 : (0 : Int) ≤ i := by omega
  have b1 : (i : Int) < c.n := by omega
  go_enter Try.func43, Try.ntmps43
  go_wp2_with (first
    | ((with_reducible refine gate_load 75 rfl ?_); refine wpList_load_mid rfl 75 _ rfl c.gs (i * 36) (by rfl) (c.slot i) d HSL.out HU.out HR.out HI.out ?_)
    | ((with_reducible refine gate_store 75 rfl ?_); refine wpList_store_box rfl 75 _ _ rfl w _ 75 (c.slot i).toArray (by rfl) (by rfl) (by simp [HL.out]) HI2.out HO.out ?_; intro w1 hs1 hb1 ho1; have hm1 := H.out.only ho1; have hbx := boxed hb1 (H.out.key i hi); rw [HP.out, HN.out] at hbx; have c34 := hbx.1; have c35 := hbx.2; have h12 := hm1.cold; have h13 := hm1.cyoung; have f2 := hm1.fa 2; have f3 := hm1.fa 3;  clear hs1 hb1 hbx; have HM1 := Lib.hid hm1; have HO1 := Lib.hid ho1; clear ho1 hm1))
  go_end0
  refine ⟨rfl, ?_, ?_⟩
  · rw [HU1.out]; exact (HM1.out.setOld (-1)).setYoung (-1)
  · exact ((HO1.out.mono (fun _ _ h => h.elim)).setCell (Or.inl (Or.inl rfl)) _).setCell (Or.inl (Or.inl rfl)) _
set_option maxHeartbeats 1000000 in
theorem unlink_1n (w : World) (a : Nat) (c : C) (i : Nat) (h : Mem w a c) (hi : i < c.n) (n : Nat) (hn' : n < c.n) (hp : c.prev i = -1) (hn : c.next i = (n : Int)) :
    Calls Try.prog 43 #[.pointer (some ⟨a, 0, none⟩), .int .i64 i] w fun e w' => e = .returned (.tuple #[]) ∧ Mem w' a (c.unlink i) ∧ Only (fun k => k = a ∨ k = c.gs) w w' := by
  have hu1 : c.unlink i = { c with old := n, prev := upd c.prev n (-1) } := by simp [C.unlink, hp, hn]
  have h0 := h.cslots
  have hsl := h.slot i hi
  obtain ⟨d, hu, hr⟩ := under75
  have hlen : (c.slot i).length = 36 := by have := h.key i hi; simp [C.slot, this]
  have hi' : (Try.prog.info? 75).map (·.size) = some (c.slot i).length := by rw [info75, hlen]
  have hi2 : (Try.prog.info? 75).map (·.size) = some (c.slot i).toArray.size := by rw [info75]; simp [hlen]
  have hone := all_oneCell_toArray (h.one i hi)
  have HI := Lib.hid hi'; clear hi'
  have HI2 := Lib.hid hi2; clear hi2
  have HO := Lib.hid hone; clear hone
  have HL := Lib.hid hlen; clear hlen
  have HSL := Lib.hid hsl; clear hsl
  have HU := Lib.hid hu; clear hu
  have HR := Lib.hid hr; clear hr
  have H := Lib.hid h; clear h
  have HP := Lib.hid hp; clear hp
  have HN := Lib.hid hn; clear hn
  have HU1 := Lib.hid hu1; clear hu1
  have hna : a ≠ w.heap.size := Nat.ne_of_lt H.out.lt_a
  have hng : c.gs ≠ w.heap.size := Nat.ne_of_lt H.out.lt_gs
  have hag : a ≠ c.gs := H.out.n1
  have hga : c.gs ≠ a := Ne.symm hag
  have b0 : (0 : Int) ≤ i := by omega
  have b1 : (i : Int) < c.n := by omega
  go_enter Try.func43, Try.ntmps43
  go_wp2_with (first
    | ((with_reducible refine gate_load 75 rfl ?_); refine wpList_load_mid rfl 75 _ rfl c.gs (i * 36) (by rfl) (c.slot i) d HSL.out HU.out HR.out HI.out ?_)
    | ((with_reducible refine gate_store 75 rfl ?_); refine wpList_store_box rfl 75 _ _ rfl w _ 75 (c.slot i).toArray (by rfl) (by rfl) (by simp [HL.out]) HI2.out HO.out ?_; intro w1 hs1 hb1 ho1; have hm1 := H.out.only ho1; have hbx := boxed hb1 (H.out.key i hi); rw [HP.out, HN.out] at hbx; have c34 := hbx.1; have c35 := hbx.2; have h12 := hm1.cold; have h13 := hm1.cyoung; have f2 := hm1.fa 2; have f3 := hm1.fa 3; have cn := hm1.cprev hn'; have fn := hm1.fs (n * 36 + 34); have h10 := hm1.cslots; clear hs1 hb1 hbx; have HM1 := Lib.hid hm1; have HO1 := Lib.hid ho1; clear ho1 hm1))
  go_region_held3 (fun w' => w'.cell? ⟨w.heap.size, 34, none⟩ = some (.int .i64 (-1)) ∧ w'.cell? ⟨w.heap.size, 35, none⟩ = some (.int .i64 n) ∧ w'.cell? ⟨a, 0, none⟩ = some (.slice (some ⟨c.gs, 0, none⟩) c.n c.caps)) (simp [*, World.cell?_setCell_far, cell_off]) (fail)
  go_wp2
  go_end0
  refine ⟨rfl, ?_, ?_⟩
  · rw [HU1.out]
    exact ((HM1.out.setOld n).setPrev hn' (-1)).drew
  · exact (((HO1.out.mono (fun _ _ h => h.elim)).setCell (Or.inl (Or.inl rfl)) _).setCell (Or.inl (Or.inr rfl)) _).drew
set_option maxHeartbeats 1000000 in
theorem unlink_p1 (w : World) (a : Nat) (c : C) (i : Nat) (h : Mem w a c) (hi : i < c.n) (p : Nat) (hp' : p < c.n) (hp : c.prev i = (p : Int)) (hn : c.next i = -1) :
    Calls Try.prog 43 #[.pointer (some ⟨a, 0, none⟩), .int .i64 i] w fun e w' => e = .returned (.tuple #[]) ∧ Mem w' a (c.unlink i) ∧ Only (fun k => k = a ∨ k = c.gs) w w' := by
  have hu1 : c.unlink i = { c with next := upd c.next p (-1), young := p } := by simp [C.unlink, hp, hn]
  have h0 := h.cslots
  have hsl := h.slot i hi
  obtain ⟨d, hu, hr⟩ := under75
  have hlen : (c.slot i).length = 36 := by have := h.key i hi; simp [C.slot, this]
  have hi' : (Try.prog.info? 75).map (·.size) = some (c.slot i).length := by rw [info75, hlen]
  have hi2 : (Try.prog.info? 75).map (·.size) = some (c.slot i).toArray.size := by rw [info75]; simp [hlen]
  have hone := all_oneCell_toArray (h.one i hi)
  have HI := Lib.hid hi'; clear hi'
  have HI2 := Lib.hid hi2; clear hi2
  have HO := Lib.hid hone; clear hone
  have HL := Lib.hid hlen; clear hlen
  have HSL := Lib.hid hsl; clear hsl
  have HU := Lib.hid hu; clear hu
  have HR := Lib.hid hr; clear hr
  have H := Lib.hid h; clear h
  have HP := Lib.hid hp; clear hp
  have HN := Lib.hid hn; clear hn
  have HU1 := Lib.hid hu1; clear hu1
  have hna : a ≠ w.heap.size := Nat.ne_of_lt H.out.lt_a
  have hng : c.gs ≠ w.heap.size := Nat.ne_of_lt H.out.lt_gs
  have hag : a ≠ c.gs := H.out.n1
  have hga : c.gs ≠ a := Ne.symm hag
  have b0 : (0 : Int) ≤ i := by omega
  have b1 : (i : Int) < c.n := by omega
  go_enter Try.func43, Try.ntmps43
  go_wp2_with (first
    | ((with_reducible refine gate_load 75 rfl ?_); refine wpList_load_mid rfl 75 _ rfl c.gs (i * 36) (by rfl) (c.slot i) d HSL.out HU.out HR.out HI.out ?_)
    | ((with_reducible refine gate_store 75 rfl ?_); refine wpList_store_box rfl 75 _ _ rfl w _ 75 (c.slot i).toArray (by rfl) (by rfl) (by simp [HL.out]) HI2.out HO.out ?_; intro w1 hs1 hb1 ho1; have hm1 := H.out.only ho1; have hbx := boxed hb1 (H.out.key i hi); rw [HP.out, HN.out] at hbx; have c34 := hbx.1; have c35 := hbx.2; have h12 := hm1.cold; have h13 := hm1.cyoung; have f2 := hm1.fa 2; have f3 := hm1.fa 3; have cn := hm1.cnext hp'; have fn := hm1.fs (p * 36 + 35); have h10 := hm1.cslots; clear hs1 hb1 hbx; have HM1 := Lib.hid hm1; have HO1 := Lib.hid ho1; clear ho1 hm1))
  go_region_held3 (fun w' => w'.cell? ⟨w.heap.size, 34, none⟩ = some (.int .i64 p) ∧ w'.cell? ⟨w.heap.size, 35, none⟩ = some (.int .i64 (-1)) ∧ w'.cell? ⟨a, 0, none⟩ = some (.slice (some ⟨c.gs, 0, none⟩) c.n c.caps)) (simp [*, World.cell?_setCell_far, cell_off]) (fail)
  have c34' : ((w1.setCell ⟨c.gs, p * 36 + 35, none⟩ (.int .i64 (-1))).drew).cell? ⟨w.heap.size, 34, none⟩ = some (.int .i64 p) := by simp [*, World.cell?_setCell_far]
  have c35' : ((w1.setCell ⟨c.gs, p * 36 + 35, none⟩ (.int .i64 (-1))).drew).cell? ⟨w.heap.size, 35, none⟩ = some (.int .i64 (-1)) := by simp [*, World.cell?_setCell_far]
  go_wp2
  go_end0
  refine ⟨rfl, ?_, ?_⟩
  · rw [HU1.out]
    exact ((HM1.out.setNext hp' (-1)).setYoung p).drew
  · exact (((HO1.out.mono (fun _ _ h => h.elim)).setCell (Or.inl (Or.inr rfl)) _).setCell (Or.inl (Or.inl rfl)) _).drew
set_option maxHeartbeats 1000000 in
theorem unlink_pn (w : World) (a : Nat) (c : C) (i : Nat) (h : Mem w a c) (hi : i < c.n) (p n : Nat) (hp' : p < c.n) (hn' : n < c.n) (hp : c.prev i = (p : Int)) (hn : c.next i = (n : Int)) :
    Calls Try.prog 43 #[.pointer (some ⟨a, 0, none⟩), .int .i64 i] w fun e w' => e = .returned (.tuple #[]) ∧ Mem w' a (c.unlink i) ∧ Only (fun k => k = a ∨ k = c.gs) w w' := by
  have hu1 : c.unlink i = { c with next := upd c.next p n, prev := upd c.prev n p } := by simp [C.unlink, hp, hn]
  have h0 := h.cslots
  have hsl := h.slot i hi
  obtain ⟨d, hu, hr⟩ := under75
  have hlen : (c.slot i).length = 36 := by have := h.key i hi; simp [C.slot, this]
  have hi' : (Try.prog.info? 75).map (·.size) = some (c.slot i).length := by rw [info75, hlen]
  have hi2 : (Try.prog.info? 75).map (·.size) = some (c.slot i).toArray.size := by rw [info75]; simp [hlen]
  have hone := all_oneCell_toArray (h.one i hi)
  have HI := Lib.hid hi'; clear hi'
  have HI2 := Lib.hid hi2; clear hi2
  have HO := Lib.hid hone; clear hone
  have HL := Lib.hid hlen; clear hlen
  have HSL := Lib.hid hsl; clear hsl
  have HU := Lib.hid hu; clear hu
  have HR := Lib.hid hr; clear hr
  have H := Lib.hid h; clear h
  have HP := Lib.hid hp; clear hp
  have HN := Lib.hid hn; clear hn
  have HU1 := Lib.hid hu1; clear hu1
  have hna : a ≠ w.heap.size := Nat.ne_of_lt H.out.lt_a
  have hng : c.gs ≠ w.heap.size := Nat.ne_of_lt H.out.lt_gs
  have hag : a ≠ c.gs := H.out.n1
  have hga : c.gs ≠ a := Ne.symm hag
  have b0 : (0 : Int) ≤ i := by omega
  have b1 : (i : Int) < c.n := by omega
  go_enter Try.func43, Try.ntmps43
  go_wp2_with (first
    | ((with_reducible refine gate_load 75 rfl ?_); refine wpList_load_mid rfl 75 _ rfl c.gs (i * 36) (by rfl) (c.slot i) d HSL.out HU.out HR.out HI.out ?_)
    | ((with_reducible refine gate_store 75 rfl ?_); refine wpList_store_box rfl 75 _ _ rfl w _ 75 (c.slot i).toArray (by rfl) (by rfl) (by simp [HL.out]) HI2.out HO.out ?_; intro w1 hs1 hb1 ho1; have hm1 := H.out.only ho1; have hbx := boxed hb1 (H.out.key i hi); rw [HP.out, HN.out] at hbx; have c34 := hbx.1; have c35 := hbx.2; have h12 := hm1.cold; have h13 := hm1.cyoung; have f2 := hm1.fa 2; have f3 := hm1.fa 3; have cp := hm1.cnext hp'; have cn := hm1.cprev hn'; have fp := hm1.fs (p * 36 + 35); have fn := hm1.fs (n * 36 + 34); have h10 := hm1.cslots; clear hs1 hb1 hbx; have HM1 := Lib.hid hm1; have HO1 := Lib.hid ho1; clear ho1 hm1))
  go_region_held3 (fun w' => w'.cell? ⟨w.heap.size, 34, none⟩ = some (.int .i64 p) ∧ w'.cell? ⟨w.heap.size, 35, none⟩ = some (.int .i64 n) ∧ w'.cell? ⟨a, 0, none⟩ = some (.slice (some ⟨c.gs, 0, none⟩) c.n c.caps)) (simp [*, World.cell?_setCell_far, cell_off]) (fail)
  have hm2 := (HM1.out.setNext hp' n).drew
  have ho2 := ((HO1.out.mono (fun _ _ h => h.elim)).setCell (F := fun k => k = a ∨ k = c.gs) (p := ⟨c.gs, p * 36 + 35, none⟩) (Or.inl (Or.inr rfl)) (.int .i64 n)).drew
  have d34 : ((w1.setCell ⟨c.gs, p * 36 + 35, none⟩ (.int .i64 n)).drew).cell? ⟨w.heap.size, 34, none⟩ = some (.int .i64 p) := by simp [*, World.cell?_setCell_far]
  have d35 : ((w1.setCell ⟨c.gs, p * 36 + 35, none⟩ (.int .i64 n)).drew).cell? ⟨w.heap.size, 35, none⟩ = some (.int .i64 n) := by simp [*, World.cell?_setCell_far]
  generalize (w1.setCell ⟨c.gs, p * 36 + 35, none⟩ (.int .i64 n)).drew = w2 at *
  have HM2 := Lib.hid hm2
  have HO2 := Lib.hid ho2
  have cn2 := hm2.cprev hn'
  have fn2 := hm2.fs (n * 36 + 34)
  have h20 := hm2.cslots
  have h23 := hm2.cyoung
  clear cp cn fp fn h10 h12 h13 f2 f3 c34 c35 HM1 HO1 hm2 ho2
  go_wp2
  go_region_held3 (fun w' => w'.cell? ⟨w.heap.size, 34, none⟩ = some (.int .i64 p) ∧ w'.cell? ⟨w.heap.size, 35, none⟩ = some (.int .i64 n) ∧ w'.cell? ⟨a, 0, none⟩ = some (.slice (some ⟨c.gs, 0, none⟩) c.n c.caps)) (simp [*, World.cell?_setCell_far, cell_off]) (fail)
  go_wp2
  go_end0
  refine ⟨rfl, ?_, ?_⟩
  · rw [HU1.out]
    exact (HM2.out.setPrev hn' p).drew
  · exact (HO2.out.setCell (Or.inl (Or.inr rfl)) _).drew
/-- A place in the order: none, or a slot. -/
def Spot (n : Nat) (x : Int) : Prop := x = -1 ∨ ∃ p : Nat, p < n ∧ x = p
theorem unlink_any (w : World) (a : Nat) (c : C) (i : Nat) (h : Mem w a c) (hi : i < c.n) (hp : Spot c.n (c.prev i)) (hn : Spot c.n (c.next i)) :
    Calls Try.prog 43 #[.pointer (some ⟨a, 0, none⟩), .int .i64 i] w fun e w' => e = .returned (.tuple #[]) ∧ Mem w' a (c.unlink i) ∧ Only (fun k => k = a ∨ k = c.gs) w w' := by
  rcases hp with hp | ⟨p, hp', hp⟩ <;> rcases hn with hn | ⟨n, hn', hn⟩
  · exact unlink_11 w a c i h hi hp hn
  · exact unlink_1n w a c i h hi n hn' hp hn
  · exact unlink_p1 w a c i h hi p hp' hp hn
  · exact unlink_pn w a c i h hi p n hp' hn' hp hn

/-- What 'link' makes of the numbers. -/
def C.link (c : C) (i : Nat) : C :=
  { c with prev := upd c.prev i c.young, next := if c.young = -1 then upd c.next i (-1) else upd (upd c.next i (-1)) c.young.toNat i,
           old := if c.young = -1 then (i : Int) else c.old, young := i }
set_option maxHeartbeats 1000000 in
theorem link_1 (w : World) (a : Nat) (c : C) (i : Nat) (h : Mem w a c) (hi : i < c.n) (hp : c.young = -1) :
    Calls Try.prog 44 #[.pointer (some ⟨a, 0, none⟩), .int .i64 i] w fun e w' => e = .returned (.tuple #[]) ∧ Mem w' a (c.link i) ∧ Only (fun k => k = a ∨ k = c.gs) w w' := by
  have hu1 : c.link i = { c with prev := upd c.prev i (-1), next := upd c.next i (-1), old := i, young := i } := by simp [C.link, hp]
  have HU1 := Lib.hid hu1; clear hu1
  have h0 := h.cslots
  have h3 := h.cyoung
  rw [hp] at h3
  have c1 := h.cprev hi
  have c2 := h.cnext hi
  have f1 := h.fs (i * 36 + 34)
  have f2 := h.fs (i * 36 + 35)
  have hag : a ≠ c.gs := h.n1
  have hga : c.gs ≠ a := Ne.symm hag
  have b0 : (0 : Int) ≤ i := by omega
  have b1 : (i : Int) < c.n := by omega
  have H := Lib.hid h; clear h
  have HP := Lib.hid hp; clear hp
  go_enter Try.func44, Try.ntmps44
  go_wp2
  go_region_held3 (fun w' => w'.cell? ⟨a, 0, none⟩ = some (.slice (some ⟨c.gs, 0, none⟩) c.n c.caps) ∧ w'.cell? ⟨a, 3, none⟩ = some (.int .i64 (-1))) (simp [*, World.cell?_setCell_far, cell_off]) (fail)
  have hm2 := ((H.out.setPrev hi (-1)).setNext hi (-1)).drew
  have ho2 := (((Only.refl (fun k => k = a ∨ k = c.gs) w).setCell (p := ⟨c.gs, i * 36 + 34, none⟩) (Or.inl (Or.inr rfl)) (.int .i64 (-1))).setCell (p := ⟨c.gs, i * 36 + 35, none⟩) (Or.inl (Or.inr rfl)) (.int .i64 (-1))).drew
  generalize ((w.setCell ⟨c.gs, i * 36 + 34, none⟩ (.int .i64 (-1))).setCell ⟨c.gs, i * 36 + 35, none⟩ (.int .i64 (-1))).drew = w2 at *
  have h22 := hm2.cold
  have h23 := hm2.cyoung
  have h20 := hm2.cslots
  have g2 := hm2.fa 2
  have g3 := hm2.fa 3
  rw [HP.out] at h23
  have HM2 := Lib.hid hm2
  have HO2 := Lib.hid ho2
  clear h0 h3 c1 c2 f1 f2 hm2 ho2
  go_wp2
  go_end0
  refine ⟨rfl, ?_, ?_⟩
  · rw [HU1.out]; exact (HM2.out.setOld i).setYoung i
  · exact (HO2.out.setCell (Or.inl (Or.inl rfl)) _).setCell (Or.inl (Or.inl rfl)) _
set_option maxHeartbeats 1000000 in
theorem link_p (w : World) (a : Nat) (c : C) (i : Nat) (h : Mem w a c) (hi : i < c.n) (p : Nat) (hp' : p < c.n) (hp : c.young = (p : Int)) :
    Calls Try.prog 44 #[.pointer (some ⟨a, 0, none⟩), .int .i64 i] w fun e w' => e = .returned (.tuple #[]) ∧ Mem w' a (c.link i) ∧ Only (fun k => k = a ∨ k = c.gs) w w' := by
  have hu1 : c.link i = { c with prev := upd c.prev i p, next := upd (upd c.next i (-1)) p i, young := i } := by simp [C.link, hp]
  have HU1 := Lib.hid hu1; clear hu1
  have h0 := h.cslots
  have h3 := h.cyoung
  rw [hp] at h3
  have c1 := h.cprev hi
  have c2 := h.cnext hi
  have f1 := h.fs (i * 36 + 34)
  have f2 := h.fs (i * 36 + 35)
  have hag : a ≠ c.gs := h.n1
  have hga : c.gs ≠ a := Ne.symm hag
  have b0 : (0 : Int) ≤ i := by omega
  have b1 : (i : Int) < c.n := by omega
  have H := Lib.hid h; clear h
  have HP := Lib.hid hp; clear hp
  go_enter Try.func44, Try.ntmps44
  go_wp2
  go_region_held3 (fun w' => w'.cell? ⟨a, 0, none⟩ = some (.slice (some ⟨c.gs, 0, none⟩) c.n c.caps) ∧ w'.cell? ⟨a, 3, none⟩ = some (.int .i64 p)) (simp [*, World.cell?_setCell_far, cell_off]) (fail)
  have hm2 := ((H.out.setPrev hi p).setNext hi (-1)).drew
  have ho2 := (((Only.refl (fun k => k = a ∨ k = c.gs) w).setCell (p := ⟨c.gs, i * 36 + 34, none⟩) (Or.inl (Or.inr rfl)) (.int .i64 p)).setCell (p := ⟨c.gs, i * 36 + 35, none⟩) (Or.inl (Or.inr rfl)) (.int .i64 (-1))).drew
  generalize ((w.setCell ⟨c.gs, i * 36 + 34, none⟩ (.int .i64 p)).setCell ⟨c.gs, i * 36 + 35, none⟩ (.int .i64 (-1))).drew = w2 at *
  have h22 := hm2.cold
  have h23 := hm2.cyoung
  have h20 := hm2.cslots
  have g2 := hm2.fa 2
  have g3 := hm2.fa 3
  have g4 := hm2.cnext hp'
  have g5 := hm2.fs (p * 36 + 35)
  rw [HP.out] at h23
  have HM2 := Lib.hid hm2
  have HO2 := Lib.hid ho2
  clear h0 h3 c1 c2 f1 f2 hm2 ho2
  go_wp2
  go_region_held3 (fun w' => w'.cell? ⟨a, 0, none⟩ = some (.slice (some ⟨c.gs, 0, none⟩) c.n c.caps) ∧ w'.cell? ⟨a, 3, none⟩ = some (.int .i64 p)) (simp [*, World.cell?_setCell_far, cell_off]) (fail)
  have hm3 := (HM2.out.setNext hp' i).drew
  have ho3 := (HO2.out.setCell (p := ⟨c.gs, p * 36 + 35, none⟩) (Or.inl (Or.inr rfl)) (.int .i64 i)).drew
  generalize (w2.setCell ⟨c.gs, p * 36 + 35, none⟩ (.int .i64 i)).drew = w3 at *
  have h33 := hm3.cyoung
  have k3 := hm3.fa 3
  have HM3 := Lib.hid hm3
  have HO3 := Lib.hid ho3
  clear h22 h23 h20 g2 g3 g4 g5 hm3 ho3
  go_wp2
  go_end0
  refine ⟨rfl, ?_, ?_⟩
  · rw [HU1.out]; exact HM3.out.setYoung i
  · exact HO3.out.setCell (Or.inl (Or.inl rfl)) _
theorem link_any (w : World) (a : Nat) (c : C) (i : Nat) (h : Mem w a c) (hi : i < c.n) (hp : Spot c.n c.young) :
    Calls Try.prog 44 #[.pointer (some ⟨a, 0, none⟩), .int .i64 i] w fun e w' => e = .returned (.tuple #[]) ∧ Mem w' a (c.link i) ∧ Only (fun k => k = a ∨ k = c.gs) w w' := by
  rcases hp with hp | ⟨p, hp', hp⟩
  · exact link_1 w a c i h hi hp
  · exact link_p w a c i h hi p hp' hp
end Go.Proofs.Ytafeiankpckijaa
