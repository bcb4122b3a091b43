/- What a store is in memory, cell by cell; what an event may have turned. -/
import Derived.Test.YtafeiankpckijaaProg
import Derived.WalkKit
import Derived.WalkSpells
import Derived.WalkLawsBesides
import Derived.Deep.QuietTactic
import Derived.BigQuiet
import Derived.Lib.Hide
import Derived.Deep.RegionHeld3
import Derived.Deep.DrawnRows
import Derived.Deep.MidRow
namespace Go.Proofs.Ytafeiankpckijaa
open Go.RowKit
theorem ret_int {k : IntKind} {a b : Int} (h : a = b) : Ending.returned (.int k a) = .returned (.int k b) := by rw [h]
theorem ret_bool {a b : Bool} (h : a = b) : Ending.returned (.bool a) = .returned (.bool b) := by rw [h]
theorem under30 : Try.prog.underlying 30 = some (.map 38 3) := by kernel_rfl
theorem under38 : Try.prog.underlying 38 = some (.array 32 5) := by kernel_rfl
theorem info38 : (Try.prog.info? 38).map (·.size) = some 32 := by kernel_rfl
theorem under75b : (Try.prog.underlying 75).any (·.isRow) = true := by kernel_rfl
theorem under75 : ∃ d, Try.prog.underlying 75 = some d ∧ d.isRow = true := by
  have h := under75b
  cases hq : Try.prog.underlying 75 with
  | none => rw [hq] at h; cases h
  | some d => rw [hq] at h; exact ⟨d, rfl, h⟩
theorem info75 : (Try.prog.info? 75).map (·.size) = some 36 := by kernel_rfl

section
variable {P : Program} {ops : Array Oper} {C : World → Prop} {Q : Act → Prop} {a : Act} {o : Oper} {rest : List Oper} {K : Act → Prop}
theorem quiet_load (ty : TypeId) (x : Operand) (ho : o.op = .load ty x) {v : Value} (h : ∀ w, C w → (Instr.loadAt ty (a.eval x)).run P w = .ok v w) (hk : K (a.put o.dst v)) : o.quiet P a C K :=
  ⟨v, fun w hw => by unfold Oper.quietAt execOp; simp only [ho, Sem.run_bind, h w hw, Result.andThen_ok, Sem.run_pure]; exact ⟨rfl, rfl⟩, hk⟩
theorem quiet_lookup (ty : TypeId) (x y : Operand) (b : Bool) (ho : o.op = .lookup ty x y b) {v : Value} (h : ∀ w, C w → (Instr.lookup ty (a.eval x) (a.eval y) b).run P w = .ok v w) (hk : K (a.put o.dst v)) : o.quiet P a C K :=
  ⟨v, fun w hw => by unfold Oper.quietAt execOp; simp only [ho, Sem.run_bind, h w hw, Result.andThen_ok, Sem.run_pure]; exact ⟨rfl, rfl⟩, hk⟩
end

/-- An event that may have turned the blocks of F, and made new ones. -/
structure Only (F : Nat → Prop) (w w' : World) : Prop where
  os : w'.os = w.os
  tape : w'.tape = w.tape
  output : w'.output = w.output
  size : w.heap.size ≤ w'.heap.size
  block : ∀ k, k < w.heap.size → ¬ F k → w'.heap[k]? = w.heap[k]?
theorem setCells_block (b : Nat) (t : TypeId) : ∀ (vs : List Value) (o : Nat) (w : World) (cur : Array Value), w.heap[b]? = some (.cells cur t (0, 0)) → o + vs.length ≤ cur.size →
    (w.setCells b o vs).heap.size = w.heap.size ∧ (w.setCells b o vs).os = w.os ∧ (w.setCells b o vs).tape = w.tape ∧ (w.setCells b o vs).output = w.output ∧ (∀ k, k ≠ b → (w.setCells b o vs).heap[k]? = w.heap[k]?) ∧
    ∃ cur', (w.setCells b o vs).heap[b]? = some (.cells cur' t (0, 0)) ∧ cur'.size = cur.size ∧ ∀ j, cur'[j]? = if o ≤ j ∧ j < o + vs.length then vs[j - o]? else cur[j]?
  | [], o, w, cur, h, _ => ⟨rfl, rfl, rfl, rfl, fun _ _ => rfl, cur, h, rfl, fun j => by rw [if_neg (by simp only [List.length_nil]; omega)]⟩
  | v :: r, o, w, cur, h, hl => by
    have h1 := heap_setCell_same w b o cur t v h
    simp only [List.length_cons] at hl
    obtain ⟨e1, e2, e3, e4, e5, cur', e6, e7, e8⟩ := setCells_block b t r (o + 1) (w.setCell ⟨b, o, none⟩ v) _ h1 (by simp; omega)
    refine ⟨e1.trans (by simp [World.setCell]), e2, e3, e4, fun k hk => (e5 k hk).trans (heap_setCell_other _ _ _ _ hk), cur', e6, by rw [e7]; simp, fun j => ?_⟩
    rw [e8 j]
    by_cases c1 : o + 1 ≤ j ∧ j < o + 1 + r.length
    · rw [if_pos c1, if_pos (by simp; omega)]
      rw [show j - o = (j - (o + 1)) + 1 by omega]; simp
    · rw [if_neg c1]
      by_cases c2 : j = o
      · subst c2; rw [if_pos (by simp), Array.getElem?_setIfInBounds_self, if_pos (by omega)]; simp
      · rw [if_neg (by simp; omega), Array.getElem?_setIfInBounds_ne (by omega)]
namespace Only
variable {F G : Nat → Prop} {a b c w w' : World}
theorem refl (F : Nat → Prop) (w : World) : Only F w w := ⟨rfl, rfl, rfl, Nat.le_refl _, fun _ _ _ => rfl⟩
theorem trans' (h : Only F a b) (k : Only G b c) (hs : ∀ i, i < a.heap.size → G i → F i) : Only F a c :=
  ⟨k.os.trans h.os, k.tape.trans h.tape, k.output.trans h.output, Nat.le_trans h.size k.size,
    fun i hi hn => (k.block i (Nat.lt_of_lt_of_le hi h.size) (fun hg => hn (hs i hi hg))).trans (h.block i hi hn)⟩
theorem trans (h : Only F a b) (k : Only F b c) : Only F a c := h.trans' k fun _ _ h => h
theorem mono (h : Only F a b) (hs : ∀ i, i < a.heap.size → F i → G i) : Only G a b := ⟨h.os, h.tape, h.output, h.size, fun i hi hn => h.block i hi fun hf => hn (hs i hi hf)⟩
theorem alloc (h : Only F a w) (o : Obj) : Only F a (w.alloc o) :=
  h.trans ⟨rfl, rfl, rfl, by simp, fun k hk _ => Below.heap_alloc _ _ _ hk⟩
theorem setCell (h : Only F a w) {p : Addr} (hp : F p.block ∨ a.heap.size ≤ p.block) (u : Value) : Only F a (w.setCell p u) :=
  ⟨h.os, h.tape, h.output, by simpa [World.setCell] using h.size, fun k hk hn => (Below.heap_setCell _ _ _ _ (by rintro rfl; rcases hp with hp | hp; exact hn hp; omega)).trans (h.block k hk hn)⟩
theorem drewN (h : Only F a w) (n : Nat) : Only F a (w.drewN n) := ⟨h.os, h.tape, h.output, h.size, h.block⟩
theorem drew (h : Only F a w) : Only F a w.drew := ⟨h.os, h.tape, h.output, h.size, h.block⟩
theorem of_below (h : Below w.heap.size w w') : Only F w w' := ⟨h.os, h.tape, h.output, h.size, fun k hk _ => h.block k hk⟩
theorem below (h : Only F w w') {B : Nat} (hB : B ≤ w.heap.size) (hF : ∀ k, F k → B ≤ k) : Below B w w' := ⟨h.os, h.tape, h.output, h.size, fun k hk => h.block k (Nat.lt_of_lt_of_le hk hB) fun hf => by have := hF k hf; omega⟩
theorem cell (h : Only F w w') {p : Addr} {v : Value} (hc : w.cell? p = some v) (hp : ¬ F p.block) : w'.cell? p = some v := by
  rw [World.cell?_of_block (h.block p.block (block_lt_of_cell hc) hp)]; exact hc
end Only

/-- The numbers of a store, as its memory has them: the blocks of its slots, of the free ones, of the map; each slot; the header. -/
structure C where
  n : Nat
  gs : Nat
  caps : Nat
  gf : Nat
  capf : Nat
  nf : Nat
  gm : Nat
  key : Nat → List Value
  da : Nat → Option Addr
  dl : Nat → Nat
  dc : Nat → Nat
  pins : Nat → Int
  prev : Nat → Int
  next : Nat → Int
  free : Nat → Nat
  old : Int
  young : Int
  es : Array MapEntry
  clock : Nat
  most : Int
  room : Int
  bytes : Int
def upd {α : Type} (f : Nat → α) (i : Nat) (v : α) : Nat → α := fun j => if j = i then v else f j
theorem upd_same {α : Type} (f : Nat → α) (i : Nat) (v : α) : upd f i v i = v := by simp [upd]
theorem upd_other {α : Type} (f : Nat → α) {i j : Nat} (v : α) (h : j ≠ i) : upd f i v j = f j := by simp [upd, h]
namespace C
def dat (c : C) (i : Nat) : Value := .slice (c.da i) (c.dl i) (c.dc i)
def hdr (c : C) : List Value := [.slice (some ⟨c.gs, 0, none⟩) c.n c.caps, .slice (some ⟨c.gf, 0, none⟩) c.nf c.capf, .int .i64 c.old, .int .i64 c.young, .map (some c.gm), .int .i64 c.most, .int .i64 c.room, .int .i64 c.bytes]
def slot (c : C) (i : Nat) : List Value := c.key i ++ [c.dat i, .int .i64 (c.pins i), .int .i64 (c.prev i), .int .i64 (c.next i)]
end C
/-- The store's memory. -/
structure Mem (w : World) (a : Nat) (c : C) : Prop where
  hdr : w.heap[a]? = some (.cells c.hdr.toArray 32 (0, 0))
  slots : ∃ cur, w.heap[c.gs]? = some (.cells cur 75 (0, 0)) ∧ cur.size = c.caps * 36
  caps : c.n ≤ c.caps
  key : ∀ i, i < c.n → (c.key i).length = 32
  slot : ∀ i, i < c.n → w.rangeAt c.gs (i * 36) (c.slot i)
  frees : ∃ cur, w.heap[c.gf]? = some (.cells cur 3 (0, 0)) ∧ cur.size = c.capf
  capf : c.nf ≤ c.capf
  capm : c.capf ≤ maxLen
  free : ∀ i, i < c.nf → w.cell? ⟨c.gf, i, none⟩ = some (.int .i64 (c.free i))
  map : w.heap[c.gm]? = some (.map c.es c.clock)
  one : ∀ i, i < c.n → ∀ v ∈ c.slot i, v.oneCell' = true
  n1 : a ≠ c.gs
  n2 : a ≠ c.gf
  n3 : c.gs ≠ c.gf
namespace Mem
variable {w w' : World} {a : Nat} {c : C}
theorem lt_a (h : Mem w a c) : a < w.heap.size := by
  by_cases hl : a < w.heap.size
  · exact hl
  · have := h.hdr; rw [Array.getElem?_eq_none (by omega)] at this; cases this
theorem lt_gs (h : Mem w a c) : c.gs < w.heap.size := by
  by_cases hl : c.gs < w.heap.size
  · exact hl
  · obtain ⟨cur, hc, _⟩ := h.slots; rw [Array.getElem?_eq_none (by omega)] at hc; cases hc
theorem lt_gf (h : Mem w a c) : c.gf < w.heap.size := by
  by_cases hl : c.gf < w.heap.size
  · exact hl
  · obtain ⟨cur, hc, _⟩ := h.frees; rw [Array.getElem?_eq_none (by omega)] at hc; cases hc
theorem lt_gm (h : Mem w a c) : c.gm < w.heap.size := by
  by_cases hl : c.gm < w.heap.size
  · exact hl
  · have := h.map; rw [Array.getElem?_eq_none (by omega)] at this; cases this
theorem ne_am (h : Mem w a c) : a ≠ c.gm := by intro e; have h1 := h.hdr; have h2 := h.map; rw [← e, h1] at h2; cases h2
theorem ne_sm (h : Mem w a c) : c.gs ≠ c.gm := by intro e; obtain ⟨cur, h1, _⟩ := h.slots; have h2 := h.map; rw [← e, h1] at h2; cases h2
theorem ne_fm (h : Mem w a c) : c.gf ≠ c.gm := by intro e; obtain ⟨cur, h1, _⟩ := h.frees; have h2 := h.map; rw [← e, h1] at h2; cases h2
theorem cslots (h : Mem w a c) : w.cell? ⟨a, 0, none⟩ = some (.slice (some ⟨c.gs, 0, none⟩) c.n c.caps) := by rw [cell_of_row _ _ _ _ _ _ h.hdr]; rfl
theorem cfree (h : Mem w a c) : w.cell? ⟨a, 1, none⟩ = some (.slice (some ⟨c.gf, 0, none⟩) c.nf c.capf) := by rw [cell_of_row _ _ _ _ _ _ h.hdr]; rfl
theorem cold (h : Mem w a c) : w.cell? ⟨a, 2, none⟩ = some (.int .i64 c.old) := by rw [cell_of_row _ _ _ _ _ _ h.hdr]; rfl
theorem cyoung (h : Mem w a c) : w.cell? ⟨a, 3, none⟩ = some (.int .i64 c.young) := by rw [cell_of_row _ _ _ _ _ _ h.hdr]; rfl
theorem cat (h : Mem w a c) : w.cell? ⟨a, 4, none⟩ = some (.map (some c.gm)) := by rw [cell_of_row _ _ _ _ _ _ h.hdr]; rfl
theorem cmost (h : Mem w a c) : w.cell? ⟨a, 5, none⟩ = some (.int .i64 c.most) := by rw [cell_of_row _ _ _ _ _ _ h.hdr]; rfl
theorem croom (h : Mem w a c) : w.cell? ⟨a, 6, none⟩ = some (.int .i64 c.room) := by rw [cell_of_row _ _ _ _ _ _ h.hdr]; rfl
theorem cbytes (h : Mem w a c) : w.cell? ⟨a, 7, none⟩ = some (.int .i64 c.bytes) := by rw [cell_of_row _ _ _ _ _ _ h.hdr]; rfl
theorem fa (h : Mem w a c) (j : Nat) : w.frozen? ⟨a, j, none⟩ = false := frozen_of_row _ _ _ _ _ h.hdr
theorem fs (h : Mem w a c) (j : Nat) : w.frozen? ⟨c.gs, j, none⟩ = false := by obtain ⟨cur, hc, _⟩ := h.slots; exact frozen_of_row _ _ _ _ _ hc
theorem ff (h : Mem w a c) (j : Nat) : w.frozen? ⟨c.gf, j, none⟩ = false := by obtain ⟨cur, hc, _⟩ := h.frees; exact frozen_of_row _ _ _ _ _ hc
theorem cdat (h : Mem w a c) {i : Nat} (hi : i < c.n) : w.cell? ⟨c.gs, i * 36 + 32, none⟩ = some (c.dat i) :=
  h.slot i hi 32 _ (by have := h.key i hi; simp [C.slot, this])
theorem cpins (h : Mem w a c) {i : Nat} (hi : i < c.n) : w.cell? ⟨c.gs, i * 36 + 33, none⟩ = some (.int .i64 (c.pins i)) :=
  h.slot i hi 33 _ (by have := h.key i hi; simp [C.slot, this])
theorem cprev (h : Mem w a c) {i : Nat} (hi : i < c.n) : w.cell? ⟨c.gs, i * 36 + 34, none⟩ = some (.int .i64 (c.prev i)) :=
  h.slot i hi 34 _ (by have := h.key i hi; simp [C.slot, this])
theorem cnext (h : Mem w a c) {i : Nat} (hi : i < c.n) : w.cell? ⟨c.gs, i * 36 + 35, none⟩ = some (.int .i64 (c.next i)) :=
  h.slot i hi 35 _ (by have := h.key i hi; simp [C.slot, this])
theorem ckey (h : Mem w a c) {i : Nat} (hi : i < c.n) : w.rangeAt c.gs (i * 36) (c.key i) := fun j v hj =>
  h.slot i hi j v (by unfold C.slot; rw [List.getElem?_append_left (by exact (List.getElem?_eq_some_iff.1 hj).1)]; exact hj)
/-- The store stands where none of its blocks has turned. -/
theorem frame (h : Mem w a c) (hk : ∀ k, (k = a ∨ k = c.gs ∨ k = c.gf ∨ k = c.gm) → w'.heap[k]? = w.heap[k]?) : Mem w' a c := by
  have ea := hk a (Or.inl rfl)
  have es := hk c.gs (Or.inr (Or.inl rfl))
  have ef := hk c.gf (Or.inr (Or.inr (Or.inl rfl)))
  have em := hk c.gm (Or.inr (Or.inr (Or.inr rfl)))
  exact ⟨ea.trans h.hdr, by obtain ⟨cur, h1, h2⟩ := h.slots; exact ⟨cur, es.trans h1, h2⟩, h.caps, h.key,
    fun i hi j v hj => (World.cell?_of_block (w := w) (a := ⟨c.gs, _, none⟩) es).trans (h.slot i hi j v hj),
    by obtain ⟨cur, h1, h2⟩ := h.frees; exact ⟨cur, ef.trans h1, h2⟩, h.capf, h.capm,
    fun i hi => (World.cell?_of_block (w := w) (a := ⟨c.gf, _, none⟩) ef).trans (h.free i hi), em.trans h.map, h.one, h.n1, h.n2, h.n3⟩
theorem alloc (h : Mem w a c) (o : Obj) : Mem (w.alloc o) a c := h.frame fun k hk => Below.heap_alloc _ _ _ (by
  rcases hk with rfl | rfl | rfl | rfl; exact h.lt_a; exact h.lt_gs; exact h.lt_gf; exact h.lt_gm)
theorem drewN (h : Mem w a c) (n : Nat) : Mem (w.drewN n) a c := h.frame fun _ _ => rfl
theorem drew (h : Mem w a c) : Mem w.drew a c := h.frame fun _ _ => rfl
/-- A store into another block. -/
theorem setOther (h : Mem w a c) {p : Addr} (h1 : p.block ≠ a) (h2 : p.block ≠ c.gs) (h3 : p.block ≠ c.gf) (h4 : p.block ≠ c.gm) (u : Value) : Mem (w.setCell p u) a c :=
  h.frame fun k hk => Below.heap_setCell _ _ _ _ (by rcases hk with rfl | rfl | rfl | rfl <;> exact fun e => by simp_all)
/-- A store into the header. -/
theorem setHdr (h : Mem w a c) {j : Nat} {u : Value} {c' : C} (hh : c'.hdr = c.hdr.set j u) (hn : c'.n = c.n) (hgs : c'.gs = c.gs) (hcaps : c'.caps = c.caps) (hgf : c'.gf = c.gf) (hcapf : c'.capf = c.capf)
    (hnf : c'.nf ≤ c.nf) (hgm : c'.gm = c.gm) (hkey : c'.key = c.key) (hslot : c'.slot = c.slot) (hfree : ∀ i, i < c'.nf → c'.free i = c.free i) (hes : c'.es = c.es) (hclock : c'.clock = c.clock) : Mem (w.setCell ⟨a, j, none⟩ u) a c' := by
  have ea : (w.setCell ⟨a, j, none⟩ u).heap[a]? = _ := heap_setCell_same w a j _ 32 u h.hdr
  have eo : ∀ k, k ≠ a → (w.setCell ⟨a, j, none⟩ u).heap[k]? = w.heap[k]? := fun k hk => heap_setCell_other _ _ _ _ hk
  refine ⟨?_, ?_, ?_, ?_, ?_, ?_, ?_, ?_, ?_, ?_, ?_, ?_, ?_, ?_⟩
  · rw [ea, hh]; simp
  · obtain ⟨cur, h1, h2⟩ := h.slots; exact ⟨cur, by rw [hgs, eo _ (Ne.symm h.n1)]; exact h1, by rw [hcaps]; exact h2⟩
  · rw [hn, hcaps]; exact h.caps
  · intro i hi; rw [hkey]; exact h.key i (by omega)
  · intro i hi k v hk; rw [hslot] at hk; rw [hgs, World.cell?_of_block (eo _ (Ne.symm h.n1))]; exact h.slot i (by omega) k v hk
  · obtain ⟨cur, h1, h2⟩ := h.frees; exact ⟨cur, by rw [hgf, eo _ (Ne.symm h.n2)]; exact h1, by rw [hcapf]; exact h2⟩
  · rw [hcapf]; exact Nat.le_trans hnf h.capf
  · rw [hcapf]; exact h.capm
  · intro i hi; rw [hgf, World.cell?_of_block (eo _ (Ne.symm h.n2)), hfree i hi]; exact h.free i (by omega)
  · rw [hgm, hes, hclock, eo _ (Ne.symm h.ne_am)]; exact h.map
  · intro i hi; rw [hslot]; exact h.one i (by omega)
  · rw [hgs]; exact h.n1
  · rw [hgf]; exact h.n2
  · rw [hgs, hgf]; exact h.n3
theorem setOld (h : Mem w a c) (v : Int) : Mem (w.setCell ⟨a, 2, none⟩ (.int .i64 v)) a { c with old := v } :=
  h.setHdr rfl rfl rfl rfl rfl rfl (Nat.le_refl _) rfl rfl rfl (fun _ _ => rfl) rfl rfl
theorem setYoung (h : Mem w a c) (v : Int) : Mem (w.setCell ⟨a, 3, none⟩ (.int .i64 v)) a { c with young := v } :=
  h.setHdr rfl rfl rfl rfl rfl rfl (Nat.le_refl _) rfl rfl rfl (fun _ _ => rfl) rfl rfl
theorem setBytes (h : Mem w a c) (v : Int) : Mem (w.setCell ⟨a, 7, none⟩ (.int .i64 v)) a { c with bytes := v } :=
  h.setHdr rfl rfl rfl rfl rfl rfl (Nat.le_refl _) rfl rfl rfl (fun _ _ => rfl) rfl rfl
theorem setPop (h : Mem w a c) (m : Nat) (hm : m ≤ c.nf) : Mem (w.setCell ⟨a, 1, none⟩ (.slice (some ⟨c.gf, 0, none⟩) m c.capf)) a { c with nf := m } :=
  h.setHdr rfl rfl rfl rfl rfl rfl hm rfl rfl rfl (fun _ _ => rfl) rfl rfl
/-- A store into one cell of a slot. -/
theorem setSlot (h : Mem w a c) {i j : Nat} (hi : i < c.n) (hj : j < 36) {u : Value} (hu : u.oneCell' = true) {c' : C} (hh : c'.hdr = c.hdr) (hn : c'.n = c.n) (hgs : c'.gs = c.gs) (hcaps : c'.caps = c.caps) (hgf : c'.gf = c.gf) (hcapf : c'.capf = c.capf)
    (hnf : c'.nf = c.nf) (hgm : c'.gm = c.gm) (hkey : ∀ k, k < c.n → (c'.key k).length = 32) (hslot : c'.slot i = (c.slot i).set j u) (hslot' : ∀ k, k < c.n → k ≠ i → c'.slot k = c.slot k) (hfree : c'.free = c.free) (hes : c'.es = c.es) (hclock : c'.clock = c.clock) :
    Mem (w.setCell ⟨c.gs, i * 36 + j, none⟩ u) a c' := by
  obtain ⟨cur, h1, h2⟩ := h.slots
  have es : (w.setCell ⟨c.gs, i * 36 + j, none⟩ u).heap[c.gs]? = _ := heap_setCell_same w c.gs (i * 36 + j) _ 75 u h1
  have eo : ∀ k, k ≠ c.gs → (w.setCell ⟨c.gs, i * 36 + j, none⟩ u).heap[k]? = w.heap[k]? := fun k hk => heap_setCell_other _ _ _ _ hk
  have hcaps' := h.caps
  refine ⟨?_, ?_, ?_, ?_, ?_, ?_, ?_, ?_, ?_, ?_, ?_, ?_, ?_, ?_⟩
  · rw [eo _ h.n1, hh]; exact h.hdr
  · exact ⟨_, by rw [hgs]; exact es, by rw [hcaps, Array.size_setIfInBounds]; exact h2⟩
  · rw [hn, hcaps]; exact h.caps
  · intro k hk; exact hkey k (by omega)
  · intro k hk m v hm
    have hlen : (c.slot i).length = 36 := by have := h.key i hi; simp [C.slot, this]
    have hmlt : m < 36 := by
      have := (List.getElem?_eq_some_iff.1 hm).1
      have h3 := hkey k (by omega)
      simp [C.slot, h3] at this; exact this
    rw [hgs, cell_of_row _ _ _ _ _ _ es]
    by_cases hki : k = i
    · subst hki
      rw [hslot] at hm
      by_cases hmj : m = j
      · subst hmj
        rw [List.getElem?_set_self (by omega)] at hm
        rw [Array.getElem?_setIfInBounds_self, if_pos (by omega)]; exact hm
      · rw [List.getElem?_set_ne (by omega)] at hm
        rw [Array.getElem?_setIfInBounds_ne (by omega)]
        have := h.slot k hi m v hm
        rwa [cell_of_row _ _ _ _ _ _ h1] at this
    · rw [hslot' k (by omega) hki] at hm
      rw [Array.getElem?_setIfInBounds_ne (by omega)]
      have := h.slot k (by omega) m v hm
      rwa [cell_of_row _ _ _ _ _ _ h1] at this
  · obtain ⟨cur, h1, h2⟩ := h.frees; exact ⟨cur, by rw [hgf, eo _ (Ne.symm h.n3)]; exact h1, by rw [hcapf]; exact h2⟩
  · rw [hnf, hcapf]; exact h.capf
  · rw [hcapf]; exact h.capm
  · intro k hk; rw [hgf, World.cell?_of_block (eo _ (Ne.symm h.n3)), hfree]; exact h.free k (by omega)
  · rw [hgm, hes, hclock, eo _ (Ne.symm h.ne_sm)]; exact h.map
  · intro k hk
    by_cases hki : k = i
    · subst hki; rw [hslot]; intro v hv
      rcases List.mem_or_eq_of_mem_set hv with hv | rfl
      · exact h.one k hi v hv
      · exact hu
    · rw [hslot' k (by omega) hki]; exact h.one k (by omega)
  · rw [hgs]; exact h.n1
  · rw [hgf]; exact h.n2
  · rw [hgs, hgf]; exact h.n3
theorem setPins (h : Mem w a c) {i : Nat} (hi : i < c.n) (v : Int) : Mem (w.setCell ⟨c.gs, i * 36 + 33, none⟩ (.int .i64 v)) a { c with pins := upd c.pins i v } :=
  h.setSlot hi (by omega) rfl rfl rfl rfl rfl rfl rfl rfl rfl h.key (by have := h.key i hi; simp [C.slot, C.dat, upd_same, this]) (fun k _ hk => by simp [C.slot, C.dat, upd_other _ _ hk]) rfl rfl rfl
theorem setPrev (h : Mem w a c) {i : Nat} (hi : i < c.n) (v : Int) : Mem (w.setCell ⟨c.gs, i * 36 + 34, none⟩ (.int .i64 v)) a { c with prev := upd c.prev i v } :=
  h.setSlot hi (by omega) rfl rfl rfl rfl rfl rfl rfl rfl rfl h.key (by have := h.key i hi; simp [C.slot, C.dat, upd_same, this]) (fun k _ hk => by simp [C.slot, C.dat, upd_other _ _ hk]) rfl rfl rfl
theorem setNext (h : Mem w a c) {i : Nat} (hi : i < c.n) (v : Int) : Mem (w.setCell ⟨c.gs, i * 36 + 35, none⟩ (.int .i64 v)) a { c with next := upd c.next i v } :=
  h.setSlot hi (by omega) rfl rfl rfl rfl rfl rfl rfl rfl rfl h.key (by have := h.key i hi; simp [C.slot, C.dat, upd_same, this]) (fun k _ hk => by simp [C.slot, C.dat, upd_other _ _ hk]) rfl rfl rfl
/-- A store into a whole slot. -/
theorem setWhole (h : Mem w a c) {i : Nat} (hi : i < c.n) {cs : List Value} (hl : cs.length = 36) (hu : ∀ v ∈ cs, v.oneCell' = true) {c' : C} (hh : c'.hdr = c.hdr) (hn : c'.n = c.n) (hgs : c'.gs = c.gs) (hcaps : c'.caps = c.caps) (hgf : c'.gf = c.gf) (hcapf : c'.capf = c.capf)
    (hnf : c'.nf = c.nf) (hgm : c'.gm = c.gm) (hkey : ∀ k, k < c.n → (c'.key k).length = 32) (hslot : c'.slot i = cs) (hslot' : ∀ k, k < c.n → k ≠ i → c'.slot k = c.slot k) (hfree : c'.free = c.free) (hes : c'.es = c.es) (hclock : c'.clock = c.clock) :
    Mem (w.setCells c.gs (i * 36) cs) a c' := by
  obtain ⟨cur, h1, h2⟩ := h.slots
  have hcaps' := h.caps
  have hin : (i + 1) * 36 ≤ c.caps * 36 := Nat.mul_le_mul_right _ (by omega)
  obtain ⟨-, -, -, -, eo, cur', es, e7, e8⟩ := setCells_block c.gs 75 cs (i * 36) w cur h1 (by omega)
  refine ⟨?_, ?_, ?_, ?_, ?_, ?_, ?_, ?_, ?_, ?_, ?_, ?_, ?_, ?_⟩
  · rw [eo _ h.n1, hh]; exact h.hdr
  · exact ⟨_, by rw [hgs]; exact es, by rw [hcaps, e7]; exact h2⟩
  · rw [hn, hcaps]; exact h.caps
  · intro k hk; exact hkey k (by omega)
  · intro k hk m v hm
    have hmlt : m < 36 := by
      have := (List.getElem?_eq_some_iff.1 hm).1
      have h3 := hkey k (by omega)
      simp [C.slot, h3] at this; exact this
    rw [hgs, cell_of_row _ _ _ _ _ _ es, e8]
    by_cases hki : k = i
    · subst hki
      rw [hslot] at hm
      rw [if_pos (by omega), show k * 36 + m - k * 36 = m by omega]; exact hm
    · rw [hslot' k (by omega) hki] at hm
      rw [if_neg (by omega)]
      have := h.slot k (by omega) m v hm
      rwa [cell_of_row _ _ _ _ _ _ h1] at this
  · obtain ⟨cur, h1, h2⟩ := h.frees; exact ⟨cur, by rw [hgf, eo _ (Ne.symm h.n3)]; exact h1, by rw [hcapf]; exact h2⟩
  · rw [hnf, hcapf]; exact h.capf
  · rw [hcapf]; exact h.capm
  · intro k hk; rw [hgf, World.cell?_of_block (eo _ (Ne.symm h.n3)), hfree]; exact h.free k (by omega)
  · rw [hgm, hes, hclock, eo _ (Ne.symm h.ne_sm)]; exact h.map
  · intro k hk
    by_cases hki : k = i
    · subst hki; rw [hslot]; exact hu
    · rw [hslot' k (by omega) hki]; exact h.one k (by omega)
  · rw [hgs]; exact h.n1
  · rw [hgf]; exact h.n2
  · rw [hgs, hgf]; exact h.n3
theorem onlyWhole (h : Mem w a c) {F : Nat → Prop} (hF : F c.gs) {i : Nat} (hi : i < c.n) {cs : List Value} (hl : cs.length = 36) : Only F w (w.setCells c.gs (i * 36) cs) := by
  obtain ⟨cur, h1, h2⟩ := h.slots
  have hcaps' := h.caps
  have hin : (i + 1) * 36 ≤ c.caps * 36 := Nat.mul_le_mul_right _ (by omega)
  obtain ⟨e1, e2, e3, e4, eo, -⟩ := setCells_block c.gs 75 cs (i * 36) w cur h1 (by omega)
  exact ⟨e2, e3, e4, by omega, fun k hk hn => eo k (fun e => hn (e ▸ hF))⟩
theorem thereSlot (h : Mem w a c) {i : Nat} (hi : i < c.n) : w.there c.gs (i * 36) 36 := fun j hj => by
  obtain ⟨cur, h1, h2⟩ := h.slots
  have hcaps' := h.caps
  have hin : (i + 1) * 36 ≤ c.caps * 36 := Nat.mul_le_mul_right _ (by omega)
  refine ⟨?_, h.fs _⟩
  rw [cell_of_row _ _ _ _ _ _ h1]; simp; omega
end Mem
end Go.Proofs.Ytafeiankpckijaa
