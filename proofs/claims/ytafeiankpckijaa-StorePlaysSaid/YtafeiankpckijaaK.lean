/- Keys of the store's map: digests of 32 bytes; what looking up, putting in and striking out do. -/
import Derived.Test.YtafeiankpckijaaA
import Derived.DeepKeys3
namespace Go.Proofs.Ytafeiankpckijaa
open Go.RowKit
set_option linter.unusedSimpArgs false
set_option linter.unusedVariables false
theorem under5 : Try.prog.underlying 5 = some (.int .u8) := by kernel_rfl
theorem cells38 : Try.prog.cellsOf 38 = 32 := by kernel_rfl
theorem cells5 : Try.prog.cellsOf 5 = 1 := by kernel_rfl
theorem keyAt38 : Try.prog.keyTypeAt 2 38 = true := by kernel_rfl
/-- 32 bytes. -/
def KeyOk (ks : List Value) : Prop := ks.length = 32 ∧ ∀ v ∈ ks, ∃ n, v = .int .u8 n ∧ (Lit.int .u8 n).wf = true
def litOf : Value → Lit
  | .int k n => .int k n
  | _ => .bool true
theorem mapM_range {α : Type} (f : Nat → Option α) (g : Nat → α) (n : Nat) (h : ∀ i, i < n → f i = some (g i)) : (List.range n).mapM f = some ((List.range n).map g) := by
  have : ∀ l : List Nat, (∀ i ∈ l, i < n) → l.mapM f = some (l.map g) := by
    intro l
    induction l with
    | nil => intro _; rfl
    | cons x l ih =>
      intro hl
      rw [List.mapM_cons, h x (hl x (by simp)), ih (fun i hi => hl i (by simp [hi]))]
      rfl
  exact this _ (fun i hi => List.mem_range.1 hi)
theorem flatten_ones (g : Nat → Lit) : ∀ l : List Nat, (l.map fun i => [g i]).flatten = l.map g
  | [] => rfl
  | x :: l => by simp [flatten_ones g l]
theorem keyLits_ok {ks : List Value} (h : KeyOk ks) : Try.prog.keyLits 2 38 ks = some ((List.range 32).map fun i => litOf (ks.getD i (.bool true))) := by
  unfold Program.keyLits
  rw [under38]
  simp only
  rw [if_pos (by rw [cells38]; exact h.1), mapM_range _ (fun i => [litOf (ks.getD i (.bool true))]) 32 (fun i hi => ?_)]
  · simp only [Option.map_some, flatten_ones (fun i => litOf (ks.getD i (.bool true)))]
  · have hl : i < ks.length := by rw [h.1]; exact hi
    obtain ⟨n, hn, hw⟩ := h.2 ks[i] (List.getElem_mem hl)
    have e : (ks.drop (i * Try.prog.cellsOf 5)).take (Try.prog.cellsOf 5) = [.int .u8 n] := by
      rw [cells5, Nat.mul_one, List.drop_eq_getElem_cons hl, hn]; rfl
    rw [e]
    unfold Program.keyLits
    rw [under5]
    simp [hw, List.getD, hl, hn, litOf]
theorem formed38 (ks : List Value) (h : KeyOk ks) : (Value.agg ks.toArray).formed Try.prog 38 = true := by
  simp [Value.formed, under38, cells38, h.1]
theorem keys_inj {ks js : List Value} (h : KeyOk ks) (h' : KeyOk js) (e : (List.range 32).map (fun i => litOf (ks.getD i (.bool true))) = (List.range 32).map fun i => litOf (js.getD i (.bool true))) : ks = js := by
  apply List.ext_getElem (by rw [h.1, h'.1])
  intro i h1 h2
  have hi : i < 32 := by rw [← h.1]; exact h1
  have := List.map_inj_left.1 e i (List.mem_range.2 hi)
  obtain ⟨n, hn, _⟩ := h.2 ks[i] (List.getElem_mem h1)
  obtain ⟨m, hm, _⟩ := h'.2 js[i] (List.getElem_mem h2)
  simp [List.getD, h1, h2, hn, hm, litOf] at this
  rw [hn, hm, this]
/-- '==' on two digests. -/
theorem equalIn_keys (w : World) {ks js : List Value} (h : KeyOk ks) (h' : KeyOk js) :
    ∃ r : Bool, (Op.equalIn 10000 38 (.agg ks.toArray) (.agg js.toArray)).run Try.prog w = .ok r w ∧ (r = true ↔ ks = js) := by
  obtain ⟨r, h1, h2⟩ := run_equalIn_deep 9998 2 38 keyAt38 w 2 2 (.agg ks.toArray) (.agg js.toArray) _ _ (formed38 ks h) (formed38 js h') (by simpa [Value.cells] using keyLits_ok h) (by simpa [Value.cells] using keyLits_ok h')
  exact ⟨r, h1, h2.trans ⟨keys_inj h h', fun e => by rw [e]⟩⟩
theorem check_key (w : World) (em : Bool) {ks : List Value} (h : KeyOk ks) : (Instr.checkKey em 10000 38 (.agg ks.toArray)).run Try.prog w = .ok () w :=
  run_checkKey_deep em 9998 2 38 keyAt38 w 2 (.agg ks.toArray) _ (formed38 ks h) (by simpa [Value.cells] using keyLits_ok h)

/-- The digest of a number. -/
def sumC (k : Nat) : List Value := .int .u8 (k % 256 : Nat) :: .int .u8 (k / 256 % 256 : Nat) :: (List.replicate 29 (.int .u8 0) ++ [.int .u8 7])
theorem sumC_len (k : Nat) : (sumC k).length = 32 := by simp [sumC]
theorem wf_u8 {n : Int} (h0 : 0 ≤ n) (h : n < 256) : (Lit.int .u8 n).wf = true := by
  simp [Lit.wf, IntKind.min, IntKind.max, IntKind.signed, IntKind.bits]; omega
theorem sumC_ok (k : Nat) : KeyOk (sumC k) := by
  refine ⟨sumC_len k, fun v hv => ?_⟩
  simp only [sumC, List.mem_cons, List.mem_append, List.mem_replicate, List.not_mem_nil, or_false] at hv
  rcases hv with rfl | rfl | ⟨_, rfl⟩ | rfl
  · exact ⟨_, rfl, wf_u8 (by omega) (by omega)⟩
  · exact ⟨_, rfl, wf_u8 (by omega) (by omega)⟩
  · exact ⟨_, rfl, wf_u8 (by omega) (by omega)⟩
  · exact ⟨_, rfl, wf_u8 (by omega) (by omega)⟩
theorem sumC_inj {k j : Nat} (hk : k < 65536) (hj : j < 65536) (h : sumC k = sumC j) : k = j := by
  simp only [sumC, List.cons.injEq, Value.int.injEq, true_and] at h
  omega
theorem equalIn_sums (w : World) {k j : Nat} (hk : k < 65536) (hj : j < 65536) :
    (Op.equalIn 10000 38 (.agg (sumC k).toArray) (.agg (sumC j).toArray)).run Try.prog w = .ok (decide (k = j)) w := by
  obtain ⟨r, h1, h2⟩ := equalIn_keys w (sumC_ok k) (sumC_ok j)
  rw [h1]
  have : r = decide (k = j) := by
    rw [Bool.eq_iff_iff, h2, decide_eq_true_iff]
    exact ⟨sumC_inj hk hj, fun e => by rw [e]⟩
  rw [this]

/-- The map's entries. -/
def Ents (es : List MapEntry) (E : List (Nat × Nat)) : Prop := es.map (fun e => (e.key, e.val)) = E.map fun p => (.agg (sumC p.1).toArray, .int .i64 p.2)
def seek (k : Nat) : List (Nat × Nat) → Nat → Option (Nat × Nat)
  | [], _ => none
  | p :: E, i => if k = p.1 then some (i, p.2) else seek k E (i + 1)
theorem find_run (w : World) {k : Nat} (hk : k < 65536) : ∀ (es : List MapEntry) (E : List (Nat × Nat)) (i : Nat), Ents es E → (∀ p ∈ E, p.1 < 65536) →
    (Instr.findAsking 38 (.agg (sumC k).toArray) es i).run Try.prog w = .ok ((seek k E i).map fun q => (q.1, .int .i64 q.2)) w
  | [], [], i, _, _ => by simp [Instr.findAsking, seek]
  | [], p :: E, i, h, _ => by simp [Ents] at h
  | e :: es, [], i, h, _ => by simp [Ents] at h
  | e :: es, p :: E, i, h, hE => by
    simp only [Ents, List.map_cons, List.cons.injEq, Prod.mk.injEq] at h
    obtain ⟨⟨h1, h2⟩, h3⟩ := h
    have he := equalIn_sums w hk (hE p (by simp))
    unfold Instr.findAsking
    simp only [Sem.run_bind, Op.equal, Op.maxDepth, h1, he, Result.andThen_ok]
    by_cases c : k = p.1
    · simp [c, seek, h2]
    · simp only [c, decide_false, Bool.false_eq_true, if_false, seek]
      exact find_run w hk es E (i + 1) h3 (fun q hq => hE q (by simp [hq]))
theorem findKey_run (w : World) {k : Nat} (hk : k < 65536) {es : List MapEntry} {E : List (Nat × Nat)} (h : Ents es E) (hE : ∀ p ∈ E, p.1 < 65536) :
    (Instr.findKey 38 (.agg (sumC k).toArray) es).run Try.prog w = .ok ((seek k E 0).map fun q => (q.1, .int .i64 q.2)) w := by
  rw [run_findKey_eq w (by rw [under38])]
  exact find_run w hk es E 0 h hE
theorem zero3 (w : World) : (zeroValue 3).run Try.prog w = .ok (.int .i64 0) w := by kernel_rfl
theorem run_getMap (w : World) {gm clock : Nat} {es : Array MapEntry} (hm : w.heap[gm]? = some (.map es clock)) : (getObj gm).run Try.prog w = .ok (.map es clock) w := by
  simp [getObj, Sem.run, hm]
theorem lookup_run (w : World) {k gm clock : Nat} (hk : k < 65536) {es : Array MapEntry} {E : List (Nat × Nat)} (hm : w.heap[gm]? = some (.map es clock)) (h : Ents es.toList E) (hE : ∀ p ∈ E, p.1 < 65536) :
    (Instr.lookup 30 (.map (some gm)) (.agg (sumC k).toArray) true).run Try.prog w =
      .ok (.tuple #[.int .i64 (((seek k E 0).map fun q => (q.2 : Int)).getD 0), .bool (seek k E 0).isSome]) w := by
  unfold Instr.lookup
  simp only [Sem.run_bind, run_underlying under30, Result.andThen_ok, run_getMap w hm, Sem.run_pure, check_key w _ (sumC_ok k), findKey_run w hk h hE]
  cases seek k E 0 with
  | none => simp [zero3]
  | some q => simp
/-- A world with another map in the place. -/
def setMap (w : World) (gm : Nat) (es : Array MapEntry) (clock : Nat) : World := { w with heap := w.heap.setIfInBounds gm (.map es clock) }
theorem run_setMap (w : World) {gm clock clock' : Nat} {es es' : Array MapEntry} (hm : w.heap[gm]? = some (.map es clock)) : (setObj gm (.map es' clock')).run Try.prog w = .ok () (setMap w gm es' clock') := by
  simp [setObj, Sem.run, hm, setMap]
theorem mapUpdate_run (w : World) {k gm clock : Nat} (hk : k < 65536) {es : Array MapEntry} {E : List (Nat × Nat)} (hm : w.heap[gm]? = some (.map es clock)) (h : Ents es.toList E) (hE : ∀ p ∈ E, p.1 < 65536)
    (hn : seek k E 0 = none) (v : Value) :
    (Instr.mapUpdate 30 (.map (some gm)) (.agg (sumC k).toArray) v).run Try.prog w = .ok () (setMap w gm (es.push { key := .agg (sumC k).toArray, val := v, born := clock }) (clock + 1)) := by
  unfold Instr.mapUpdate
  simp only [Sem.run_bind, run_underlying under30, Result.andThen_ok, run_getMap w hm, Sem.run_pure, check_key w _ (sumC_ok k), findKey_run w hk h hE, hn, Option.map_none, run_setMap w hm]
theorem delete_run (w : World) {k gm clock : Nat} (hk : k < 65536) {es : Array MapEntry} {E : List (Nat × Nat)} (hm : w.heap[gm]? = some (.map es clock)) (h : Ents es.toList E) (hE : ∀ p ∈ E, p.1 < 65536)
    {j x : Nat} (hn : seek k E 0 = some (j, x)) (ty : TypeId) :
    (Builtin.delete_ #[30, 38] ty #[.map (some gm), .agg (sumC k).toArray]).run Try.prog w = .ok (.tuple #[]) (setMap w gm (es.eraseIdxIfInBounds j) clock) := by
  unfold Builtin.delete_
  simp [run_underlying under30, run_getMap w hm, check_key w _ (sumC_ok k), findKey_run w hk h hE, hn, run_setMap w hm]
theorem Ents.push {es : Array MapEntry} {E : List (Nat × Nat)} (h : Ents es.toList E) (k i c : Nat) : Ents (es.push { key := .agg (sumC k).toArray, val := .int .i64 i, born := c }).toList (E ++ [(k, i)]) := by
  unfold Ents at *; simp [h]
theorem map_eraseIdx' {α β : Type} (f : α → β) : ∀ (l : List α) (j : Nat), (l.eraseIdx j).map f = (l.map f).eraseIdx j
  | [], _ => rfl
  | _ :: _, 0 => rfl
  | x :: l, j + 1 => by simp [map_eraseIdx' f l j]
theorem Ents.erase {es : Array MapEntry} {E : List (Nat × Nat)} (h : Ents es.toList E) (j : Nat) : Ents (es.eraseIdxIfInBounds j).toList (E.eraseIdx j) := by
  unfold Ents at *
  rw [Array.toList_eraseIdxIfInBounds, map_eraseIdx', map_eraseIdx', h]
theorem Ents.length {es : Array MapEntry} {E : List (Nat × Nat)} (h : Ents es.toList E) : es.size = E.length := by
  have := congrArg List.length h; simpa using this
/-- The store's map stands anew, all else as it was. -/
theorem Mem.setMap {w : World} {a : Nat} {c : C} (h : Mem w a c) (es : Array MapEntry) (clock : Nat) : Mem (setMap w c.gm es clock) a { c with es := es, clock := clock } := by
  have eo : ∀ k, k ≠ c.gm → (Ytafeiankpckijaa.setMap w c.gm es clock).heap[k]? = w.heap[k]? := fun k hk => by
    simp only [Ytafeiankpckijaa.setMap]; rw [Array.getElem?_setIfInBounds_ne (Ne.symm hk)]
  refine ⟨(eo _ h.ne_am).trans h.hdr, ?_, h.caps, h.key, ?_, ?_, h.capf, h.capm, ?_, ?_, h.one, h.n1, h.n2, h.n3⟩
  · obtain ⟨cur, h1, h2⟩ := h.slots; exact ⟨cur, (eo _ h.ne_sm).trans h1, h2⟩
  · intro i hi j v hj; exact (World.cell?_of_block (w := w) (a := ⟨c.gs, _, none⟩) (eo _ h.ne_sm)).trans (h.slot i hi j v hj)
  · obtain ⟨cur, h1, h2⟩ := h.frees; exact ⟨cur, (eo _ h.ne_fm).trans h1, h2⟩
  · intro i hi; exact (World.cell?_of_block (w := w) (a := ⟨c.gf, _, none⟩) (eo _ h.ne_fm)).trans (h.free i hi)
  · simp only [Ytafeiankpckijaa.setMap]; rw [Array.getElem?_setIfInBounds_self, if_pos h.lt_gm]
theorem Only.setMap {F : Nat → Prop} {a w : World} (h : Only F a w) {gm : Nat} (hg : F gm ∨ a.heap.size ≤ gm) (es : Array MapEntry) (clock : Nat) : Only F a (setMap w gm es clock) :=
  ⟨h.os, h.tape, h.output, by simpa [Ytafeiankpckijaa.setMap] using h.size, fun k hk hn => by
    have hne : gm ≠ k := by rintro rfl; rcases hg with hg | hg; exact hn hg; omega
    simp only [Ytafeiankpckijaa.setMap]; rw [Array.getElem?_setIfInBounds_ne hne]; exact h.block k hk hn⟩
end Go.Proofs.Ytafeiankpckijaa
