/- Laws for the walks of remove, Put and New: a region with a tail, delete, a slot cleared, a free slot put back. -/
import Derived.Test.YtafeiankpckijaaF
import Derived.StillTailTactics
namespace Go.Proofs.Ytafeiankpckijaa
open Go.RowKit
set_option linter.unusedSimpArgs false
set_option linter.unusedVariables false
section
variable {P : Program} {w : World}
theorem wp_delete {o : Oper} {a : Act} {K : Act → World → Prop} {Q : Exit → Act → World → Prop} (x y : Operand) (tm tk : TypeId)
    (ho : o.op = .call { callee := .builtin .delete, args := #[x, y], argTypes := #[tm, tk] }) (m k : Value) (hx : a.eval x = m) (hy : a.eval y = k) (W : World)
    (hr : (Builtin.delete_ #[tm, tk] o.type #[m, k]).run P w = .ok (.tuple #[]) W) (h : ∀ w2, w2 = W → K (a.put o.dst (.tuple #[])) w2) : o.wp P a w K Q := by
  unfold Oper.wp execOp
  simp only [ho, resolve, invoke, builtin, Sem.run_bind, Sem.run_pure, Result.andThen_ok, List.map_toArray, List.map_cons, List.map_nil, hx, hy, hr]
  exact h W rfl
theorem step_delete {ops : Array Oper} {o : Oper} {a : Act} {K : Act → World → Prop} {Q : Exit → Act → World → Prop} {E : Prop} (hgd : o.guard = none) (x y : Operand) (tm tk : TypeId)
    (ho : o.op = .call { callee := .builtin .delete, args := #[x, y], argTypes := #[tm, tk] }) (m k : Value) (hx : a.eval x = m) (hy : a.eval y = k) (W : World)
    (hr : (Builtin.delete_ #[tm, tk] o.type #[m, k]).run P w = .ok (.tuple #[]) W) (h : ∀ w2, w2 = W → K (a.put o.dst (.tuple #[])) w2) :
    if Region.wanted o (yielded ops a.tmps) = true then Oper.wp P o a w K Q else E := by
  have hw : Region.wanted o (yielded ops a.tmps) = true := by simp [Region.wanted, hgd]
  rw [if_pos hw]
  exact wp_delete x y tm tk ho m k hx hy W hr h
end
def zeroKey : List Value := List.replicate 32 (.int .u8 0)
section
variable {P : Program} {ops : Array Oper} {W : World} {Q : Act → Prop}
theorem still_of_quiet {o : Oper} {a : Act} {K : Act → Prop} (h : o.quiet P a (fun w' => w' = W) K) : o.still P a W K := by
  obtain ⟨v, h1, h2⟩ := h
  have h3 := h1 W rfl
  unfold Oper.quietAt at h3
  unfold Oper.still
  generalize (execOp a.eval o).run P W = r at *
  cases r with
  | ok n w' =>
    cases n <;> simp only [Oper.quietUpon] at h3 <;> simp only [Oper.stillUpon]
    case value u => obtain ⟨e1, rfl⟩ := h3; exact ⟨e1, h2⟩
    case skip => obtain ⟨e1, rfl⟩ := h3; exact ⟨e1, h2⟩
    case enter f args => obtain ⟨e1, hc⟩ := h3; exact ⟨e1, v, hc, h2⟩
  | halt x w' => simp only [Oper.quietUpon] at h3
theorem wpStill_of_quiet : ∀ {l : List Oper} {a : Act}, wpQuiet P ops (fun w' => w' = W) Q l a → wpStill P ops W Q l a
  | [], _, h => h
  | o :: l, a, h => by
    unfold wpQuiet at h
    unfold wpStill
    split
    · rename_i hw; rw [if_pos hw] at h
      obtain ⟨v, h1, h2⟩ := h
      exact still_of_quiet ⟨v, h1, wpStill_of_quiet h2⟩
    · rename_i hw; rw [if_neg hw] at h; exact wpStill_of_quiet h
end
/-- A region whose operations only read, but for its tail, which nothing can come ahead of: walked once. -/
theorem region_tail {P : Program} {id : Nat} {Q : Exit → Act → World → Prop} {a : Act} {w : World} {l : List Oper} (n : Nat) (hm : P.follows .mixedOrders = true) (hB : Region.lexTailB .any l.toArray n = true)
    (h : wpQuiet P l.toArray (fun w' => w' = w.drew) (fun a' => wpList P l.toArray Q (l.drop n) a' w.drew) (l.take n) a) : (Code.region id l.toArray true).wp P Q a w :=
  wp_region_still_tail n hm hB (wpStill_of_quiet h)
theorem wpList_store_whole {P : Program} {ops : Array Oper} {rest : List Oper} {op : Oper} {a : Act} {w : World} {Q : Exit → Act → World → Prop} (hgd : op.guard = none) (ty : TypeId) (x y : Operand) (ho : op.op = .store ty x y)
    (b o : Nat) (cells : Array Value) (hx : a.eval x = .pointer (some ⟨b, o, none⟩)) (hy : a.eval y = .agg cells)
    (ht : w.there b o cells.size) (hi : (P.info? ty).map (·.size) = some cells.size) (h1 : cells.all (·.oneCell') = true)
    (h : ∀ w2, w2 = w.setCells b o cells.toList → wpList P ops Q rest (a.put op.dst undef) w2) : wpList P ops Q (op :: rest) a w :=
  wpList_store_mid hgd ty x y ho b o cells hx hy ht hi h1 (h _ rfl)
def zeroSlot : List Value := zeroKey ++ [.slice none 0 0, .int .i64 0, .int .i64 0, .int .i64 0]
theorem zeroSlot_len : zeroSlot.length = 36 := by decide
theorem zeroSlot_one : ∀ v ∈ zeroSlot, v.oneCell' = true := by decide
/-- What 'remove' makes of the numbers, but for the free ones; j: the entry's place in the map. -/
def C.cleared (c : C) (i j : Nat) : C :=
  { c.unlink i with es := c.es.eraseIdxIfInBounds j, bytes := c.bytes - c.dl i, key := upd c.key i zeroKey, da := upd c.da i none, dl := upd c.dl i 0, dc := upd c.dc i 0, pins := upd c.pins i 0,
                    prev := upd (c.unlink i).prev i 0, next := upd (c.unlink i).next i 0 }
def C.removed (c : C) (i j : Nat) : C := { c.cleared i j with free := upd c.free c.nf i, nf := c.nf + 1 }
theorem Mem.clear {w : World} {a i j : Nat} {c : C} (h : Mem w a { c.unlink i with es := c.es.eraseIdxIfInBounds j, bytes := c.bytes - c.dl i }) (hi : i < c.n) :
    Mem (w.setCells c.gs (i * 36) zeroSlot) a (c.cleared i j) := by
  refine Mem.setWhole h (i := i) hi zeroSlot_len zeroSlot_one rfl rfl rfl rfl rfl rfl rfl rfl ?_ ?_ ?_ rfl rfl rfl
  · intro k hk
    by_cases e : k = i
    · subst e; simp [C.cleared, upd_same, zeroKey]
    · simp only [C.cleared]; rw [upd_other _ _ e]; exact h.key k hk
  · simp [C.slot, C.dat, C.cleared, upd_same, zeroSlot]
  · intro k hk e; simp only [C.slot, C.dat, C.cleared]; rw [upd_other _ _ e, upd_other _ _ e, upd_other _ _ e, upd_other _ _ e, upd_other _ _ e, upd_other _ _ e, upd_other _ _ e]; rfl
/-- The free slots, as values. -/
def freeV (c : C) : List Value := (List.range c.nf).map fun j => .int .i64 (c.free j)
theorem Mem.owns {w : World} {a : Nat} {c : C} (h : Mem w a c) : w.ownsRow 0 3 1 (.slice (some ⟨c.gf, 0, none⟩) c.nf c.capf) c.nf (freeV c) := by
  obtain ⟨cur, h1, h2⟩ := h.frees
  refine ⟨by simp [freeV], Or.inr ⟨c.gf, c.capf, cur, rfl, Nat.zero_le _, h1, h.capf, h.capm, by omega, ?_⟩⟩
  have hc := h.capf
  apply List.ext_getElem (by simp [freeV]; omega)
  intro k k1 k2
  have hk : k < c.nf := by simpa [freeV] using k2
  have := h.free k hk
  rw [cell_of_row _ _ _ _ _ _ h1] at this
  have hk2 : k < cur.size := by omega
  simp [hk2] at this
  simp [freeV, this]
/-- A free slot more. -/
theorem Mem.pushFree {w w1 : World} {a : Nat} {c : C} (h : Mem w a c) (i : Nat) (hg : w.grownBy w1 (some c.gf))
    (ho : w1.ownsRow 0 3 1 (.slice (some ⟨c.gf, 0, none⟩) (c.nf + 1) c.capf) (c.nf + 1) (freeV c ++ [.int .i64 i])) :
    Mem (w1.setCell ⟨a, 1, none⟩ (.slice (some ⟨c.gf, 0, none⟩) (c.nf + 1) c.capf)) a { c with free := upd c.free c.nf i, nf := c.nf + 1 } := by
  obtain ⟨-, ho | ⟨g, cap, cur, hv, -, h1, h2, h3, h4, h5⟩⟩ := ho
  · exact absurd ho.1 (by simp)
  simp only [Value.slice.injEq, Option.some.injEq, Addr.mk.injEq, and_true, true_and] at hv
  obtain ⟨rfl, rfl⟩ := hv
  have eb : ∀ k, k < w.heap.size → k ≠ c.gf → w1.heap[k]? = w.heap[k]? := fun k hk hne => hg.block k hk (fun e => hne (Option.some.inj e))
  have ea : w1.heap[a]? = some (.cells c.hdr.toArray 32 (0, 0)) := (eb a h.lt_a h.n2).trans h.hdr
  have eh : (w1.setCell ⟨a, 1, none⟩ (.slice (some ⟨c.gf, 0, none⟩) (c.nf + 1) c.capf)).heap[a]? = _ := heap_setCell_same w1 a 1 _ 32 _ ea
  have eo : ∀ k, k ≠ a → (w1.setCell ⟨a, 1, none⟩ (.slice (some ⟨c.gf, 0, none⟩) (c.nf + 1) c.capf)).heap[k]? = w1.heap[k]? := fun k hk => heap_setCell_other _ _ _ _ hk
  have es : (w1.setCell ⟨a, 1, none⟩ (.slice (some ⟨c.gf, 0, none⟩) (c.nf + 1) c.capf)).heap[c.gs]? = w.heap[c.gs]? := (eo _ (Ne.symm h.n1)).trans (eb _ h.lt_gs h.n3)
  refine ⟨?_, ?_, h.caps, h.key, ?_, ?_, h2, h.capm, ?_, ?_, h.one, h.n1, h.n2, h.n3⟩
  · rw [eh]; simp [C.hdr]
  · obtain ⟨cur, k1, k2⟩ := h.slots; exact ⟨cur, es.trans k1, k2⟩
  · intro k hk m v hm; exact (World.cell?_of_block (w := w) (a := ⟨c.gs, _, none⟩) es).trans (h.slot k hk m v hm)
  · exact ⟨cur, (eo _ (Ne.symm h.n2)).trans h1, by simpa using h4⟩
  · intro k hk
    simp only at hk
    rw [World.cell?_of_block (eo _ (Ne.symm h.n2)), cell_of_row _ _ _ _ _ _ h1]
    have e : (cur.toList.take ((c.nf + 1) * 1))[k]? = (freeV c ++ [.int .i64 i])[k]? := by rw [h5]
    rw [List.getElem?_take_of_lt (by omega)] at e
    rw [show cur[k]? = cur.toList[k]? by simp, e]
    by_cases hkn : k = c.nf
    · subst hkn; simp [freeV, upd_same]
    · have : k < c.nf := by omega
      rw [List.getElem?_append_left (by simpa [freeV] using this)]
      simp only
      rw [upd_other _ _ hkn]
      simp [freeV, this]
  · exact ((eo _ (Ne.symm h.ne_am)).trans (eb _ h.lt_gm (Ne.symm h.ne_fm))).trans h.map
theorem Mem.grown_hdr {w w1 : World} {a : Nat} {c : C} (h : Mem w a c) (hg : w.grownBy w1 (some c.gf)) (j : Nat) : w1.cell? ⟨a, j, none⟩ = w.cell? ⟨a, j, none⟩ ∧ w1.frozen? ⟨a, j, none⟩ = false := by
  have e : w1.heap[a]? = w.heap[a]? := hg.block a h.lt_a (fun e => h.n2 (Option.some.inj e))
  exact ⟨World.cell?_of_block (w := w) (a := ⟨a, j, none⟩) e, (World.frozen?_of_block (w := w) (a := ⟨a, j, none⟩) e).trans (h.fa j)⟩
theorem Only.grown {F : Nat → Prop} {w0 w w1 : World} {g : Nat} (h : Only F w0 w) (hg : w.grownBy w1 (some g)) (hF : F g ∨ w0.heap.size ≤ g) : Only F w0 w1 :=
  ⟨hg.os.trans h.os, hg.tape.trans h.tape, hg.output.trans h.output, Nat.le_trans h.size hg.size, fun k hk hn =>
    (hg.block k (Nat.lt_of_lt_of_le hk h.size) (fun e => by obtain rfl := Option.some.inj e; rcases hF with hF | hF; exact hn hF; omega)).trans (h.block k hk hn)⟩
theorem under27 : Try.prog.underlying 27 = some (.slice 3) := by kernel_rfl
theorem infoAll3 : (Try.prog.info? 3).map (fun i => (i.zero, i.size, i.bytes)) = some (some (.int .i64 0), 1, 8) := by kernel_rfl
end Go.Proofs.Ytafeiankpckijaa
