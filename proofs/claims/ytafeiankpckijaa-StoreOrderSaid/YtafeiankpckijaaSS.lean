/- The walk of StoreOrder. -/
import Derived.Test.YtafeiankpckijaaOP
namespace Go.Proofs.Ytafeiankpckijaa
open Go.RowKit
set_option linter.unusedSimpArgs false
set_option linter.unusedVariables false
attribute [local go_sem ↓] Go.wp_at_zero Go.wp_at_succ
theorem Mine.key_lt {W w : World} {a most room p : Nat} {L : List Chunk} (h : Mine W w a most room p L) : ∀ x ∈ L.map (·.key), x < 65536 := fun x hx => by
  obtain ⟨y, hy, rfl⟩ := List.mem_map.1 hx; exact h.keys y hy
theorem lookup_val (w : World) {k gm clock : Nat} (hk : k < 65536) {es : Array MapEntry} {E : List (Nat × Nat)} (hm : w.heap[gm]? = some (.map es clock)) (h : Ents es.toList E) (hE : ∀ p ∈ E, p.1 < 65536) :
    (Instr.lookup 30 (.map (some gm)) (.agg (sumC k).toArray) false).run Try.prog w = .ok (.int .i64 (((seek k E 0).map fun q => (q.2 : Int)).getD 0)) w := by
  unfold Instr.lookup
  simp only [Sem.run_bind, run_underlying under30, Result.andThen_ok, run_getMap w hm, Sem.run_pure, check_key w _ (sumC_ok k), findKey_run w hk h hE]
  cases seek k E 0 with
  | none => simp [zero3]
  | some q => simp
theorem mk30' (w : World) : (Instr.makeMap 30 none).run Try.prog w = .ok (.map (some w.heap.size)) (w.alloc (.map #[] 0)) := by
  unfold Instr.makeMap; simp [Sem.run]
attribute [local go_sem] mk30'
/-- The map of the digests that are held, each 1. -/
def ones (L : List Chunk) : List (Nat × Nat) := (pinned L).map fun x => (x.key, 1)
theorem seek_out {k : Nat} : ∀ {E : List (Nat × Nat)} (i : Nat), k ∉ E.map (·.1) → seek k E i = none
  | [], _, _ => rfl
  | p :: E, i, h => by
    simp only [List.map_cons, List.mem_cons, not_or] at h
    unfold seek; rw [if_neg h.1]; exact seek_out (i + 1) h.2
theorem seek_one {k : Nat} : ∀ {E : List (Nat × Nat)} (i : Nat), (∀ p ∈ E, p.2 = 1) → k ∈ E.map (·.1) → ∃ q, seek k E i = some (q, 1)
  | [], _, _, h => by cases h
  | p :: E, i, h1, h => by
    unfold seek
    by_cases e : k = p.1
    · rw [if_pos e]; exact ⟨i, by rw [h1 p (by simp)]⟩
    · rw [if_neg e]
      simp only [List.map_cons, List.mem_cons] at h
      rcases h with h | h
      · exact absurd h e
      · exact seek_one (i + 1) (fun q hq => h1 q (List.mem_cons_of_mem _ hq)) h
theorem ones_keys {L : List Chunk} : (ones L).map (·.1) = (pinned L).map (·.key) := by unfold ones; rw [List.map_map]; rfl
theorem ones_lt {L : List Chunk} (h : ∀ x ∈ L, x.key < 65536) : ∀ p ∈ ones L, p.1 < 65536 := by
  intro p hp; obtain ⟨x, hx, rfl⟩ := List.mem_map.1 hp; exact h x (List.mem_filter.1 hx).1
theorem ones_one {L : List Chunk} : ∀ p ∈ ones L, p.2 = 1 := by
  intro p hp; obtain ⟨x, hx, rfl⟩ := List.mem_map.1 hp; rfl
theorem pinned_take {L : List Chunk} {j : Nat} (hj : j < L.length) : pinned (L.take (j + 1)) = pinned (L.take j) ++ (if 0 < (L[j]).pins then [L[j]] else []) := by
  rw [List.take_succ_eq_append_getElem hj]; unfold pinned; rw [List.filter_append]
  congr 1
  by_cases h : 0 < (L[j]).pins <;> simp [h]
theorem ones_take {L : List Chunk} {j : Nat} (hj : j < L.length) : ones (L.take (j + 1)) = ones (L.take j) ++ (if 0 < (L[j]).pins then [((L[j]).key, 1)] else []) := by
  unfold ones; rw [pinned_take hj, List.map_append]; split <;> rfl
theorem seek_held {L : List Chunk} (hnd : (L.map (·.key)).Nodup) {x : Chunk} (hx : x ∈ L) : ((seek x.key (ones L) 0).map fun q => (q.2 : Int)).getD 0 = if 0 < x.pins then 1 else 0 := by
  by_cases h : 0 < x.pins
  · obtain ⟨q, e⟩ := seek_one (k := x.key) (E := ones L) 0 ones_one (by rw [ones_keys]; exact List.mem_map.2 ⟨x, List.mem_filter.2 ⟨hx, by simpa using h⟩, rfl⟩)
    rw [e, if_pos h]; rfl
  · rw [seek_out 0 (by
      rw [ones_keys]; intro hm; obtain ⟨y, hy, e⟩ := List.mem_map.1 hm
      obtain ⟨h1, h2⟩ := List.mem_filter.1 hy
      obtain rfl := nodup_key hnd h1 hx e
      exact h (by simpa using h2)), if_neg h]; rfl
def MapAt (w : World) (gm : Nat) (E : List (Nat × Nat)) : Prop := ∃ es clock, w.heap[gm]? = some (.map es clock) ∧ Ents es.toList E
theorem MapAt.lt {w : World} {gm : Nat} {E : List (Nat × Nat)} (h : MapAt w gm E) : gm < w.heap.size := by
  obtain ⟨es, clock, h, _⟩ := h; exact (Array.getElem?_eq_some_iff.1 h).1
theorem MapAt.beside {w w' : World} {gm : Nat} {E : List (Nat × Nat)} {G : Nat → Prop} (h : MapAt w gm E) (hb : Beside G w w') (hg : G gm) : MapAt w' gm E := by
  have hl := h.lt
  obtain ⟨es, clock, h1, h2⟩ := h; exact ⟨es, clock, (hb.block gm hl (fun hn => hn hg)).trans h1, h2⟩
/-- The store, the list that was, the map. -/
structure Hold (W w : World) (a most room p : Nat) (L : List Chunk) (G : Nat → Prop) (gm : Nat) (E : List (Nat × Nat)) (v : Value) (ks : List Nat) : Prop where
  mine : Mine2 W w a most room p L G
  own : ∃ B, w.ownsRow B 38 32 v ks.length (ks.flatMap sumC)
  ownG : ∀ g, v.ownBlock = some g → G g ∧ g ≠ gm
  lt : ∀ k ∈ ks, k < 65536
  map : MapAt w gm E
  gmG : G gm
section
variable {W w w' : World} {a most room p q : Nat} {L L' : List Chunk} {G G' : Nat → Prop} {gm : Nat} {E : List (Nat × Nat)} {v : Value} {ks : List Nat}
theorem Hold.beside (h : Hold W w a most room p L G gm E v ks) (hm : Mine2 W w' a most room q L' G) (hb : Beside G w w') : Hold W w' a most room q L' G gm E v ks := by
  obtain ⟨B, ho⟩ := h.own
  exact ⟨hm, ⟨B, own_beside ho hb (fun g hg => (h.ownG g hg).1)⟩, h.ownG, h.lt, h.map.beside hb h.gmG, h.gmG⟩
theorem Hold.only (h : Hold W w a most room p L G gm E v ks) (ho : Only (fun _ => False) w w') : Hold W w' a most room p L G gm E v ks := h.beside (h.mine.frame ho) (Beside.of ho)
theorem Hold.grow (h : Hold W w a most room p L G gm E v ks) (ho : Only (fun _ => False) w w') (hs : ∀ y, G y → G' y) (hG : ∀ y, G' y → G y ∨ (w.heap.size ≤ y ∧ y < w'.heap.size)) : Hold W w' a most room p L G' gm E v ks := by
  have h1 := h.only ho
  exact ⟨h.mine.grow ho hG, h1.own, fun g hg => ⟨hs g (h1.ownG g hg).1, (h1.ownG g hg).2⟩, h.lt, h1.map, hs _ h.gmG⟩
theorem Hold.sub (h : Hold W w a most room p L G' gm E v ks) (hs : ∀ y, G y → G' y) (hg : ∀ g, v.ownBlock = some g → G g) (hm : G gm) : Hold W w a most room p L G gm E v ks := by
  obtain ⟨F, h1, h2, h3⟩ := h.mine.rep
  exact ⟨⟨⟨F, h1, h2, fun y hy => h3 y (hs y hy)⟩, fun y hy => h.mine.low y (hs y hy), h.mine.only⟩, h.own, fun g hg' => ⟨hg g hg', (h.ownG g hg').2⟩, h.lt, h.map, hm⟩
theorem Hold.at (h : Hold W w a most room p L G gm E v ks) {ao : Option Addr} {n cap : Nat} (hv : v = .slice ao n cap) {j : Nat} (hj : j < ks.length) : ∃ g o, ao = some ⟨g, o, none⟩ ∧ w.rangeAt g (o + j * 32) (sumC ks[j]) := by
  subst hv
  obtain ⟨B, ho⟩ := h.own
  obtain ⟨ao', cap', e, h5⟩ := keys_of_owns ho h.lt
  simp only [Value.slice.injEq] at e
  obtain ⟨rfl, rfl, rfl⟩ := e
  obtain ⟨-, g, o, h6, h7⟩ := h5 j ks[j] (List.getElem?_eq_getElem hj)
  exact ⟨g, o, h6, h7⟩
theorem Hold.keys (h : Hold W w a most room p L G gm E v ks) : Keys w v ks := by
  obtain ⟨B, ho⟩ := h.own; exact keys_of_owns ho h.lt
/-- One more digest into the map. -/
theorem Hold.mapset (h : Hold W w a most room p L G gm E v ks) {k : Nat} (hk : k < 65536) (hE : ∀ p ∈ E, p.1 < 65536) (hn : seek k E 0 = none) :
    ∃ w', (Instr.mapUpdate 30 (.map (some gm)) (.agg (sumC k).toArray) (.int .i64 1)).run Try.prog w = .ok () w' ∧ Hold W w' a most room p L G gm (E ++ [(k, 1)]) v ks ∧ (∀ g, g ≠ gm → w'.heap[g]? = w.heap[g]?) := by
  obtain ⟨es, clock, h1, h2⟩ := h.map
  have ho : Only (fun y => y = gm) w (setMap w gm (es.push { key := .agg (sumC k).toArray, val := .int .i64 1, born := clock }) (clock + 1)) := Only.setMap (F := fun y => y = gm) (Only.refl _ w) (Or.inl rfl) _ _
  have hne : ∀ g, g ≠ gm → (Ytafeiankpckijaa.setMap w gm (es.push { key := .agg (sumC k).toArray, val := .int .i64 1, born := clock }) (clock + 1)).heap[g]? = w.heap[g]? := fun g hg => by
    simp only [Ytafeiankpckijaa.setMap]; rw [Array.getElem?_setIfInBounds_ne (Ne.symm hg)]
  have hlt := h.map.lt
  refine ⟨_, mapUpdate_run w hk h1 h2 hE hn _, ⟨h.mine.rows (Only.mono ho (fun y _ e => e ▸ h.gmG)), ?_, h.ownG, h.lt, ⟨es.push { key := .agg (sumC k).toArray, val := .int .i64 1, born := clock }, clock + 1, ?_, h2.push k 1 clock⟩, h.gmG⟩, hne⟩
  · obtain ⟨B, hO⟩ := h.own
    exact ⟨B, own_beside (G := fun y => y ≠ gm) hO (Only.mono ho (fun y _ e hn => hn e)) (fun g hg => (h.ownG g hg).2)⟩
  · simp only [Ytafeiankpckijaa.setMap]; rw [Array.getElem?_setIfInBounds_self, if_pos hlt]
end
theorem Hold.start {W w : World} {a most room p gm : Nat} {L : List Chunk} {E : List (Nat × Nat)} (h : Mine2 W w a most room p L (fun y => y = gm)) (hm : MapAt w gm E) :
    Calls Try.prog 24 #[Ptr a] w fun e w' => ∃ ao cap G, e = .returned (.slice ao L.length cap) ∧ Hold W w' a most room p L G gm E (.slice ao L.length cap) (L.map (·.key)) ∧ Only (fun _ => False) w w' := by
  have hlt := hm.lt
  refine h.list.mono ?_
  rintro e w' ⟨v, rfl, h1, h2, h3, h4⟩
  have hl := h1.lt
  have hlen : (L.map (·.key)).length = L.length := List.length_map ..
  obtain ⟨ao, cap, rfl, h5⟩ := h2
  rw [hlen]
  refine ⟨ao, cap, _, rfl, ⟨h4, ⟨w.heap.size, ?_⟩, fun g hg => ?_, h.mine.key_lt, hm.beside (Beside.of (G := fun _ => True) h3) trivial, Or.inl rfl⟩, h3⟩
  · rw [hlen] at h1; rw [hlen]; simpa [List.flatMap_map] using h1
  · have := hl g (by rw [hlen]; exact hg); exact ⟨Or.inr this, by omega⟩
theorem var_sum {w w2 : World} {k : Nat} {C : Array Value} (hC : C.size = 32) (h : w2 = (w.alloc (.cells C 38)).setCells w.heap.size 0 (sumC k)) : w2.rangeAt w.heap.size 0 (sumC k) ∧ Only (fun _ => False) w w2 ∧ w.heap.size < w2.heap.size := by
  subst h
  have ht : (w.alloc (.cells C 38)).there w.heap.size 0 32 := by rw [← hC]; exact box_there w C 38
  refine ⟨World.rangeAt_setCells_same _ _ _ _ (by rw [sumC_len]; exact ht), Only.setCells_new ((Only.refl _ w).alloc _) (Nat.le_refl _) _ _, ?_⟩
  have hr := World.rangeAt_setCells_same (w.alloc (.cells C 38)) w.heap.size 0 (sumC k) (by rw [sumC_len]; exact ht)
  exact block_lt_of_cell (hr 0 _ (List.getElem?_eq_getElem (by rw [sumC_len]; omega)))
theorem range_beside {w w' : World} {G : Nat → Prop} {g o : Nat} {cs : List Value} (h : w.rangeAt g o cs) (hb : Beside G w w') (hg : G g) : w'.rangeAt g o cs := fun j v hj => hb.cell (h j v hj) hg
section
variable {W w : World} {a most room p : Nat} {L : List Chunk} {G : Nat → Prop} {gm : Nat} {E : List (Nat × Nat)} {v : Value} {ks : List Nat} {x : Chunk}
/-- A held chunk is let go .. -/
theorem Hold.unpin (h : Hold W w a most room p L G gm E v ks) (hx : x ∈ L) (hp : p < 1000000000) (hh : 0 < x.pins) :
    Calls Try.prog 19 #[.pointer (some ⟨a, 0, none⟩), .agg (sumC x.key).toArray] w fun e w' => e = .returned (.int .i64 0) ∧ Hold W w' a most room p (pinL (· - 1) x.key L) G gm E v ks ∧ Beside G w w' := by
  refine (h.mine.unpin (h.mine.mine.keys x hx) hp).mono ?_
  rintro e w' ⟨rfl, h1, h2⟩
  refine ⟨?_, h.beside h1 h2, h2⟩
  obtain ⟨n, hn⟩ : ∃ n, x.pins = n + 1 := ⟨x.pins - 1, by omega⟩
  rw [unpinE_yes (n := n) (has_iff.2 (List.mem_map.2 ⟨x, hx, rfl⟩)) (by rw [pinsOf_at h.mine.mine.nodup hx, hn])]
/-- .. and held again. -/
theorem Hold.repin (h : Hold W w a most room p (pinL (· - 1) x.key L) G gm E v ks) (hnd : (L.map (·.key)).Nodup) (hx : x ∈ L) (hp : p < 1000000000) (hh : 0 < x.pins) :
    Calls Try.prog 18 #[.pointer (some ⟨a, 0, none⟩), .agg (sumC x.key).toArray] w fun e w' => (∃ z, e = .returned (.int .i64 z)) ∧ Hold W w' a most room (p + 1) L G gm E v ks ∧ Beside G w w' := by
  have hk : x.key < 65536 := by
    have := h.mine.mine.key_lt x.key (by rw [keys_pinL]; exact List.mem_map.2 ⟨x, hx, rfl⟩)
    exact this
  refine (h.mine.pin hk hp).mono ?_
  rintro e w' ⟨rfl, h1, h2⟩
  rw [pinL_back (fun y hy e => by rw [nodup_key hnd hy hx e]; exact hh)] at h1
  exact ⟨⟨_, rfl⟩, h.beside h1 h2, h2⟩
/-- One that is not held cannot be let go. -/
theorem Hold.unpin_not (h : Hold W w a most room p L G gm E v ks) (hx : x ∈ L) (hp : p < 1000000000) (hh : x.pins = 0) :
    Calls Try.prog 19 #[.pointer (some ⟨a, 0, none⟩), .agg (sumC x.key).toArray] w fun e w' => e = .returned (.int .i64 91) ∧ Hold W w' a most room (p + 1) L G gm E v ks := by
  refine (h.mine.unpin (h.mine.mine.keys x hx) hp).mono ?_
  rintro e w' ⟨rfl, h1, h2⟩
  rw [pinL_id (fun y hy e => by rw [nodup_key h.mine.mine.nodup hy hx e]; omega)] at h1
  refine ⟨by rw [unpinE_zero (has_iff.2 (List.mem_map.2 ⟨x, hx, rfl⟩)) (by rw [pinsOf_at h.mine.mine.nodup hx, hh])], h.beside ?_ h2⟩
  obtain ⟨F, r1, r2⟩ := h1.rep
  exact ⟨⟨F, r1.more (by omega), r2⟩, h1.low, h1.only⟩
end
theorem Mine2.listS {W w : World} {a most room p : Nat} {L : List Chunk} {G : Nat → Prop} (h : Mine2 W w a most room p L G) : Calls Try.prog 24 #[Ptr a] w fun e w' => ∃ ao cap G', e = .returned (.slice ao L.length cap) ∧ RowIn w' G' (.slice ao L.length cap) (L.map (·.key)) ∧ Only (fun _ => False) w w' := by
  refine h.listIn.mono ?_
  rintro e w' ⟨v, G', rfl, h1, h2, h3, h4⟩
  obtain ⟨ao, cap, rfl, h5⟩ := h1.keys
  rw [List.length_map] at h1 ⊢
  exact ⟨ao, cap, G', rfl, h1, h4⟩
theorem RowIn.at {w : World} {G : Nat → Prop} {ao : Option Addr} {cap n : Nat} {ks : List Nat} (h : RowIn w G (.slice ao n cap) ks) {j : Nat} (hj : j < ks.length) : ∃ g o, ao = some ⟨g, o, none⟩ ∧ w.rangeAt g (o + j * 32) (sumC ks[j]) := by
  obtain ⟨ao', cap', e, h5⟩ := h.keys
  simp only [Value.slice.injEq] at e
  obtain ⟨rfl, rfl, rfl⟩ := e
  obtain ⟨-, g, o, h6, h7⟩ := h5 j ks[j] (List.getElem?_eq_getElem hj)
  exact ⟨g, o, h6, h7⟩
theorem wpList_load_wanted {P : Program} {ops : Array Oper} {rest : List Oper} {op : Oper} {a : Act} {w : World} {Q : Exit → Act → World → Prop} (hgd : Region.wanted op (yielded ops a.tmps) = true) (ty : TypeId) (x : Operand) (ho : op.op = .load ty x)
    (b o : Nat) (hx : a.eval x = .pointer (some ⟨b, o, none⟩)) (cs : List Value) (d : TypeDesc) (hc : w.rangeAt b o cs) (hu : P.underlying ty = some d) (hd : d.isRow = true) (hi : (P.info? ty).map (·.size) = some cs.length)
    (h : wpList P ops Q rest (a.put op.dst (.agg cs.toArray)) w) : wpList P ops Q (op :: rest) a w := by
  refine wpList_step fun _ hK => ?_
  rw [if_pos hgd]
  unfold Oper.wp execOp
  simp only [ho, hx, Instr.loadAt, Instr.sureAddr, Sem.run_bind, Sem.run_pure, Result.andThen_ok, run_loadVar_mid w b o ty cs d hc hu hd hi]
  exact hK _ _ h
theorem range_only {w w' : World} {g o : Nat} {cs : List Value} (h : w.rangeAt g o cs) (ho : Only (fun _ => False) w w') : w'.rangeAt g o cs := range_beside (G := fun _ => True) h (Beside.of ho) trivial
theorem MapAt.only {w w' : World} {gm : Nat} {E : List (Nat × Nat)} (h : MapAt w gm E) (ho : Only (fun _ => False) w w') : MapAt w' gm E := h.beside (G := fun _ => True) (Beside.of ho) trivial
theorem lookup_at {w : World} {gm : Nat} {L : List Chunk} {x : Chunk} (h : MapAt w gm (ones L)) (hk : ∀ x ∈ L, x.key < 65536) (hnd : (L.map (·.key)).Nodup) (hx : x ∈ L) :
    (Instr.lookup 30 (.map (some gm)) (.agg (sumC x.key).toArray) false).run Try.prog w = .ok (.int .i64 (if 0 < x.pins then 1 else 0)) w := by
  obtain ⟨es, clock, h1, h2⟩ := h
  rw [lookup_val w (hk x hx) h1 h2 (ones_lt hk), seek_held hnd hx]
theorem yieldsIf_lookup {P : Program} {ops : Array Oper} {S : World → Prop} {op : Oper} {a : Act} (hw : Region.wanted op (yielded ops a.tmps) = true) (ty : TypeId) (x y : Operand) (b : Bool) (ho : op.op = .lookup ty x y b) (m k v : Value) (hx : a.eval x = m) (hy : a.eval y = k)
    (hS : ∀ w, S w → (Instr.lookup ty m k b).run P w = .ok v w) : YieldsIf P ops S op v a :=
  .inl ⟨hw, fun w hw' => by
    unfold execOp
    simp only [ho, hx, hy, Sem.run_bind, hS w hw', Result.andThen_ok, Sem.run_pure]⟩
theorem sum_agg (n : Int) (w : World) : Calls Try.prog 14 #[.int .i64 n] w fun e w' => e = .returned (.agg (sumC (keyOf n)).toArray) ∧ Only (fun _ => False) w w' := sum_any n w
theorem has_agg {W w : World} {a most room p k : Nat} {L : List Chunk} {G : Nat → Prop} (h : Mine2 W w a most room p L G) (hk : k < 65536) {r : Bool} (hr : hasL k L = r) : Calls Try.prog 21 #[.pointer (some ⟨a, 0, none⟩), .agg (sumC k).toArray] w fun e w' => e = .returned (.bool r) ∧ Only (fun _ => False) w w' := by
  subst hr; exact h.has hk
set_option maxRecDepth 100000 in
set_option maxHeartbeats 8000000 in
theorem order_law (AW : Awake) (W : World) (n r : Int) (lo : Option Addr) (ds : List D) (cap : Nat) (d : D) (hd : Dos W lo ds) (hold : Old W W.heap.size ds) (hl : ds.length ≤ 3000000000000)
    (hdat : DataAt W (fun y => y < W.heap.size) d.ao d.b) :
    Calls Try.prog 5 #[.int .i64 n, .int .i64 r, .slice lo ds.length cap, .agg d.cells.toArray] W (Law W) := by
  have hs := own_start hdat
  have K1 := Lib.hid (made_law (W.alloc (.cells d.cells.toArray 24)) n r lo ds cap (hd.frame hs.only (fun _ _ h => h)) (fun x hx => ((hold x hx).mono (fun y hy => Nat.lt_of_lt_of_le hy hs.only.size)).frame' hs.only) hl)
  have HAW := Lib.hid AW; clear AW
  have HS := Lib.hid hs; clear hs hd hold hdat
  have hb := HS.out.box
  unfold D.cells at *
  go_enter Try.func5, Try.ntmps5
  go_upto_region 1 with fail
  generalize W.alloc (.cells #[Value.int .i64 d.op, .int .i64 d.id, .slice d.ao d.b.length d.cap, .int .i64 d.n] 24) = W1 at *
  generalize W.heap.size = g at *
  go_wp2_with fail
  refine K1.out.mono ?_
  rintro e w1 ⟨v1, ok1, rfl, ho1, hm1⟩
  have HM1 := Lib.hid hm1
  have HO1 := Lib.hid (HS.out.only.trans ho1)
  obtain ⟨d0, d1, d2, d3⟩ := HS.out.box.frame ho1
  clear ho1 hm1 hb
  cases ok1 with
  | false =>
    have KA := Lib.hid (HAW.out w1)
    go_wp2_with fail
    refine KA.out.mono ?_
    rintro e w4 ⟨rfl, ho⟩
    have HO4 := Lib.hid (HO1.out.trans ho); clear ho
    go_wp2
    go_ret
    exact ⟨rfl, HO4.out⟩
  | true =>
  obtain ⟨a, rfl, ma, hcount, -⟩ := HM1.out rfl
  have hm2 := ma.frame ((Only.refl _ w1).alloc (.cells d.cells.toArray 24))
  have KS := Lib.hid (short_any (w1.alloc (.cells d.cells.toArray 24)) (some ⟨w1.heap.size, 0, none⟩) [d] 1 (dos_one (box_new w1 d 24)) (by simp))
  have HM2 := Lib.hid (And.intro hm2 hcount)
  clear ma hm2 HM1 K1 HO1 hcount
  unfold D.cells at KS HM2
  go_wp2_with fail
  refine KS.out.mono ?_
  rintro e w2 ⟨q2, rfl, hw2, hq2⟩
  clear d0 d1 d2 d3
  have HM3 := Lib.hid (show Mine W1 w2 a (mostOf n) (roomOf r) ds.length (runL (mostOf n) (roomOf r) ds []) ∧ ds.length ≤ 300 from by rw [hw2]; exact HM2.out)
  have HQ2 := Lib.hid hq2
  clear hw2 hq2 KS HM2
  have HO2 := Lib.hid (HS.out.only.trans HM3.out.1.only)
  obtain ⟨d0, d1, d2, d3⟩ := HM3.out.1.box HS.out.box
  cases q2 with
  | false =>
    have KA := Lib.hid (HAW.out w2)
    go_wp2_with fail
    refine KA.out.mono ?_
    rintro e w4 ⟨rfl, ho⟩
    have HO4 := Lib.hid (HO2.out.trans ho); clear ho
    go_wp2
    go_ret
    exact ⟨rfl, HO4.out⟩
  | true =>
  have HB : Hid (d.b.length ≤ 65536) := Lib.hid (by have := (HQ2.out rfl).2; simp only [lenD] at this; omega)
  have HK := Lib.hid (keyOf_lt d.id)
  clear HQ2
  generalize runL (mostOf n) (roomOf r) ds [] = L at HM3
  have hmine2 := (Mine2.of HM3.out.1).grow ((Only.refl (fun _ => False) w2).alloc (.map #[] 0)) (G' := fun y => y = w2.heap.size) (fun y hy => Or.inr (by subst hy; simp))
  have hmap0 : MapAt (w2.alloc (.map #[] 0)) w2.heap.size (ones []) := ⟨#[], 0, heap_alloc_new _ _, rfl⟩
  have KL := Lib.hid (Hold.start hmine2 hmap0)
  have HBD := Lib.hid (And.intro HM3.out.1.nodup (And.intro HM3.out.1.bounds HM3.out.1.keys))
  have hcount := HM3.out.2
  clear hmine2 hmap0 HO2
  unfold Ptr at KL
  go_wp2_with fail
  refine KL.out.mono ?_
  rintro e w4 ⟨ao, cp, G, rfl, hh4, -⟩
  clear d0 d1 d2 d3 KL HM3
  generalize w2.heap.size = gm at *
  have HH4 := Lib.hid hh4
  have HOG := Lib.hid (And.intro hh4.ownG hh4.gmG)
  clear hh4
  have hl64 : L.length ≤ 64 := by have := HBD.out.2.1; omega
  go_wp2_with fail
  go_loopg [42] L.length (fun gg v wl => ∃ j : Nat, v = .int .i64 j ∧ Hid (j + gg = L.length ∧ Hold W1 wl a (mostOf n) (roomOf r) (ds.length + j) L G gm (ones (L.take j)) (.slice ao L.length cp) (L.map (·.key))))
  case atStart => exact ⟨0, rfl, Lib.hid ⟨by omega, HH4.out⟩⟩
  case round =>
    obtain ⟨j, rfl, hh⟩ := hrel
    obtain ⟨hjg, hH⟩ := hh.out
    clear hh HH4
    by_cases hj : j < L.length
    · have hj' : (j : Int) < (L.length : Int) := by omega
      have c0 : (0 : Int) ≤ j := by omega
      obtain ⟨g1, o1, rfl, hr⟩ := hH.at rfl (j := j) (by rw [List.length_map]; exact hj)
      have hke : (L.map (·.key))[j]'(by rw [List.length_map]; exact hj) = (L[j]).key := by simp
      rw [hke] at hr
      have HXL := Lib.hid (And.intro (List.getElem_mem hj) (And.intro (ones_take hj) (show (L[j]).key ∉ (ones (L.take j)).map (·.1) from by
        rw [ones_keys]; intro hm
        obtain ⟨y, hy, e⟩ := List.mem_map.1 hm
        have hy2 := (List.mem_filter.1 hy).1
        have h1 := HBD.out.1
        rw [show L = L.take j ++ L[j] :: L.drop (j + 1) by rw [← List.drop_eq_getElem_cons hj, List.take_append_drop], List.map_append, List.map_cons, List.nodup_append] at h1
        exact h1.2.2 _ (List.mem_map.2 ⟨y, hy2, rfl⟩) _ (by simp) e)))
      generalize hx : L[j] = x at *
      have HR := Lib.hid hr
      have HI := Lib.hid (infoSum x.key)
      have HHJ := Lib.hid hH
      clear hr hke hH hx
      by_cases hp : 0 < x.pins
      · have HP := Lib.hid hp; clear hp
        go_wp2_with (first
          | ((with_reducible refine gate_load 38 rfl ?_); (refine wpList_load_mid rfl 38 _ rfl wr.heap.size 0 (by rfl) (sumC _) _ HV2.out under38 rfl HI.out ?_))
          | ((with_reducible refine gate_load 38 rfl ?_); (refine wpList_load_mid rfl 38 _ rfl g1 (o1 + j * 32) (by rfl) (sumC _) _ HR.out under38 rfl HI.out ?_))
          | ((with_reducible refine gate_store 38 rfl ?_); go_must (refine wpList_store_whole rfl 38 _ _ rfl wr.heap.size 0 (sumC x.key).toArray (by rfl) (by rfl) (by rw [ksize]; exact box_there wr _ 38) (by rw [ksize]; exact info38) (by kernel_rfl) ?_); intro w2 hw2; have hv := var_sum rfl hw2; clear hw2; have HV2 := Lib.hid hv.1; have HO2 := Lib.hid hv.2; clear hv)
          | fail)
        have hgr := HHJ.out.grow HO2.out.1 (G' := fun y => G y ∨ y = wr.heap.size) (fun y hy => Or.inl hy) (fun y hy => by rcases hy with hy | hy; exact Or.inl hy; right; subst hy; have := HO2.out.2; omega)
        have KU := Lib.hid (hgr.unpin HXL.out.1 (by omega) HP.out)
        have hne : wr.heap.size ≠ gm := by have := (HHJ.out.mine.low gm HOG.out.2).2; omega
        clear hgr HHJ HR
        refine KU.out.mono ?_
        rintro e w3 ⟨rfl, hu, hb⟩
        have HV3 := Lib.hid (range_beside HV2.out hb (Or.inr rfl))
        obtain ⟨w5, hms, hu5, hoth⟩ := hu.mapset (hu.lt x.key (List.mem_map.2 ⟨x, HXL.out.1, rfl⟩)) (ones_lt (fun y hy => HBD.out.2.2 y (List.mem_of_mem_take hy))) (seek_out 0 HXL.out.2.2)
        have HMS := Lib.hid hms
        have HV5 := Lib.hid (show w5.rangeAt wr.heap.size 0 (sumC x.key) from fun q u hq => by rw [World.cell?_of_block (hoth _ hne)]; exact HV3.out q u hq)
        have KP := Lib.hid (hu5.repin HBD.out.1 HXL.out.1 (by omega) HP.out)
        clear KU HV2 HO2 hu hb hms hu5 hoth hne
        go_wp2_with (first
          | ((with_reducible refine gate_load 38 rfl ?_); (refine wpList_load_mid rfl 38 _ rfl wr.heap.size 0 (by rfl) (sumC _) _ HV5.out under38 rfl HI.out ?_))
          | ((with_reducible refine gate_load 38 rfl ?_); (refine wpList_load_mid rfl 38 _ rfl wr.heap.size 0 (by rfl) (sumC _) _ HV3.out under38 rfl HI.out ?_))
          | ((refine wpList_mapUpdate rfl 30 (.tmp 50) (.tmp 51) (.const (.int .i64 1)) rfl (.map (some gm)) (.agg (sumC x.key).toArray) (.int .i64 1) (by rfl) (by rfl) (by rfl) _ HMS.out ?_); intro w6 hw6; subst hw6)
          | fail)
        refine KP.out.mono ?_
        rintro e w6 ⟨⟨z6, rfl⟩, hu6, -⟩
        have HU6 := Lib.hid (show Hold W1 w6 a (mostOf n) (roomOf r) (ds.length + (j + 1)) L G gm (ones (L.take (j + 1))) _ _ from by
          rw [HXL.out.2.1, if_pos HP.out]; exact hu6.sub (fun y hy => Or.inl hy) (fun g hg => (HOG.out.1 g hg).1) HOG.out.2)
        clear KP HMS HV3 HV5 hu6
        go_wp2
        go_roundg (L.length - (j + 1))
        case measure => omega
        case rel => exact ⟨j + 1, by go_num, Lib.hid ⟨by omega, HU6.out⟩⟩
      · have HP := Lib.hid hp; clear hp
        go_wp2_with (first
          | ((with_reducible refine gate_load 38 rfl ?_); (refine wpList_load_mid rfl 38 _ rfl wr.heap.size 0 (by rfl) (sumC _) _ HV2.out under38 rfl HI.out ?_))
          | ((with_reducible refine gate_load 38 rfl ?_); (refine wpList_load_mid rfl 38 _ rfl g1 (o1 + j * 32) (by rfl) (sumC _) _ HR.out under38 rfl HI.out ?_))
          | ((with_reducible refine gate_store 38 rfl ?_); go_must (refine wpList_store_whole rfl 38 _ _ rfl wr.heap.size 0 (sumC x.key).toArray (by rfl) (by rfl) (by rw [ksize]; exact box_there wr _ 38) (by rw [ksize]; exact info38) (by kernel_rfl) ?_); intro w2 hw2; have hv := var_sum rfl hw2; clear hw2; have HV2 := Lib.hid hv.1; have HO2 := Lib.hid hv.2; clear hv)
          | fail)
        have hp0 : x.pins = 0 := by have := HP.out; omega
        have KU := Lib.hid ((HHJ.out.only HO2.out.1).unpin_not HXL.out.1 (by omega) hp0)
        clear HHJ HR hp0
        refine KU.out.mono ?_
        rintro e w3 ⟨rfl, hu⟩
        have HU6 := Lib.hid (show Hold W1 w3 a (mostOf n) (roomOf r) (ds.length + (j + 1)) L G gm (ones (L.take (j + 1))) _ _ from by
          rw [HXL.out.2.1, if_neg HP.out, List.append_nil]; exact hu)
        clear KU HV2 HO2 hu
        go_wp2
        go_roundg (L.length - (j + 1))
        case measure => omega
        case rel => exact ⟨j + 1, by go_num, Lib.hid ⟨by omega, HU6.out⟩⟩
    · have hj' : ¬ (j : Int) < (L.length : Int) := by omega
      have hje : j = L.length := by omega
      have HHE := Lib.hid (show Hold W1 wr a (mostOf n) (roomOf r) (ds.length + L.length) L G gm (ones L) (.slice ao L.length cp) (L.map (·.key)) from by
        have := hH; rw [hje, List.take_length] at this; exact this)
      obtain ⟨d0, d1, d2, d3⟩ := hH.mine.mine.box HS.out.box
      clear hH hje
      go_wp2_with fail
      refine (sum_any d.id _).mono ?_
      rintro e w3 ⟨rfl, ho3⟩
      have HH3 := Lib.hid (HHE.out.only ho3)
      have KH := Lib.hid (HH3.out.mine.has HK.out)
      unfold Ptr at KH
      clear ho3 HHE
      go_wp2_with fail
      refine KH.out.mono ?_
      rintro e w5 ⟨rfl, ho5⟩
      have hh5 := HH3.out.only ho5
      have HH5 := Lib.hid (hh5.only (Only.refl (fun _ => False) w5).drew)
      clear KH ho5 HH3 d0 d1 d2 d3
      obtain ⟨x0, x1, x2, x3⟩ := HH5.out.mine.mine.box HS.out.box
      clear x0 x3 hh5
      have hbl : d.b.length ≤ 1000000 := Nat.le_trans HB.out (by omega)
      rcases putE_cases (most := mostOf n) (room := roomOf r) (k := keyOf d.id) (n := d.b.length) (L := L) with hE | hE
      · go_wp2_with fail
        refine wp_region_noPanic ?_
        refine wp_region_held_drew (S := (fun w' => w'.cell? ⟨g, 1, none⟩ = some (.int .i64 d.id) ∧ w'.cell? ⟨g, 2, none⟩ = some (.slice d.ao d.b.length d.cap))) (by kernel_rfl) (⟨x1, x2⟩) (fun hHeld => ?_)
        refine wpAnyH_take (i := 0) (v := ?_) rfl (by kernel_rfl) (by kernel_rfl) (by kernel_rfl) (fun _ _ _ h => h) (Or.inl ⟨by rfl, ?_⟩) (by assumption) ?_
        rotate_left
        · ((intro w hSw); (first | (go_simp; done) | (go_simp; with_reducible rfl)))
        (try simp only [Act.put, List.setIfInBounds_toArray, List.set_cons_zero, List.set_cons_succ, List.getElem_toArray, List.getElem_cons_succ, List.getElem_cons_zero])
        refine wpAnyH_take (i := 1) (v := ?_) rfl (by kernel_rfl) (by kernel_rfl) (by kernel_rfl) (fun _ _ _ h => h) (Or.inl ⟨by rfl, ?_⟩) (by assumption) ?_
        rotate_left
        · ((intro w hSw); (first | (go_simp; done) | (go_simp; with_reducible rfl)))
        (try simp only [Act.put, List.setIfInBounds_toArray, List.set_cons_zero, List.set_cons_succ, List.getElem_toArray, List.getElem_cons_succ, List.getElem_cons_zero])
        refine wpAnyH_take (i := 2) (v := ?_) rfl (by kernel_rfl) (by kernel_rfl) (by kernel_rfl) (fun _ _ _ h => h) (Or.inl ⟨by rfl, ?_⟩) (by assumption) ?_
        rotate_left
        · ((intro w hSw); (first | (go_simp; done) | (go_simp; with_reducible rfl)))
        (try simp only [Act.put, List.setIfInBounds_toArray, List.set_cons_zero, List.set_cons_succ, List.getElem_toArray, List.getElem_cons_succ, List.getElem_cons_zero])
        refine wpAnyH_take (i := 4) (v := ?_) rfl (by kernel_rfl) (by kernel_rfl) (by kernel_rfl) (fun _ _ _ h => h) (Or.inl ⟨by rfl, ?_⟩) (by assumption) ?_
        rotate_left
        · ((intro w hSw); (first | (go_simp; done) | (go_simp; with_reducible rfl)))
        (try simp only [Act.put, List.setIfInBounds_toArray, List.set_cons_zero, List.set_cons_succ, List.getElem_toArray, List.getElem_cons_succ, List.getElem_cons_zero])
        refine wpAnyH_take (i := 5) (v := ?_) rfl (by kernel_rfl) (by kernel_rfl) (by kernel_rfl) (fun _ _ _ h => h) (Or.inl ⟨by rfl, ?_⟩) (by assumption) ?_
        rotate_left
        · ((intro w hSw); (first | (go_simp; done) | (go_simp; with_reducible rfl)))
        (try simp only [Act.put, List.setIfInBounds_toArray, List.set_cons_zero, List.set_cons_succ, List.getElem_toArray, List.getElem_cons_succ, List.getElem_cons_zero])
        refine wpAnyH_ready (rs := [3]) (by kernel_rfl) (by simp) ?_
        refine AllReadyH.cons rfl (fun K hK => ?_) AllReadyH.nil
        go_simp
        (go_at_call 14; refine (sum_any d.id _).mono ?_; rintro e wc ⟨rfl, hoc⟩; have HHC := Lib.hid (HH5.out.only hoc); have KP := Lib.hid (HHC.out.mine.put HK.out HS.out.data d.cap hbl); unfold Ptr at KP; rw [hE] at KP; obtain ⟨y0, y1, y2, y3⟩ := HHC.out.mine.mine.box HS.out.box; clear hoc y0 y3 HH5)
        (try go_wp2_with fail)
        refine hK.out _ _ (⟨y1, y2⟩) (fun hHeld => ?_)
        clear hK K
        (try simp only [Act.put, List.setIfInBounds_toArray, List.set_cons_zero, List.set_cons_succ, List.getElem_toArray, List.getElem_cons_succ, List.getElem_cons_zero])
        refine wpAnyH_ready (rs := [6]) (by kernel_rfl) (by simp) ?_
        refine AllReadyH.cons rfl (fun K hK => ?_) AllReadyH.nil
        go_simp
        (go_at_call 17; refine KP.out.mono ?_; rintro e wd ⟨rfl, hmd, hbd⟩; have HHP := Lib.hid (HHC.out.beside hmd hbd); obtain ⟨z0, z1, z2, z3⟩ := hmd.mine.box HS.out.box; clear hmd hbd KP HHC z0 z3)
        (try go_wp2_with fail)
        refine hK.out _ _ (⟨z1, z2⟩) (fun hHeld => ?_)
        clear hK K
        (try simp only [Act.put, List.setIfInBounds_toArray, List.set_cons_zero, List.set_cons_succ, List.getElem_toArray, List.getElem_cons_succ, List.getElem_cons_zero])
        refine wpAnyH_take (i := 7) (v := ?_) rfl (by kernel_rfl) (by kernel_rfl) (by kernel_rfl) (fun _ _ _ h => h) (Or.inl ⟨by rfl, ?_⟩) (by assumption) ?_
        rotate_left
        · ((intro w hSw); (first | (go_simp; done) | (go_simp; with_reducible rfl)))
        (try simp only [Act.put, List.setIfInBounds_toArray, List.set_cons_zero, List.set_cons_succ, List.getElem_toArray, List.getElem_cons_succ, List.getElem_cons_zero])
        refine wpAnyH_done (by kernel_rfl) ?_ _
        refine NoPanic.normal ?_
        have hq := HHP.out
        rw [put_full_same hE] at hq
        have KL := Lib.hid hq.mine.listIn
        have HHQ := Lib.hid hq
        clear hq HHP x1 x2 y1 y2 z1 z2 hE hbl
        unfold Ptr at KL
        go_wp2_with fail
        refine KL.out.mono ?_
        rintro e w7 ⟨vn, Gn, rfl, hrn, hmn, -, hon⟩
        have KQ := Lib.hid (eq_same (HHQ.out.only hon).keys hrn.keys (by rw [List.length_map]; exact hl64))
        have HMN := Lib.hid hmn.mine
        clear KL hrn hmn hon HHQ
        go_wp2_with fail
        refine KQ.out.mono ?_
        rintro e w8 ⟨rfl, ho8⟩
        have HOE := Lib.hid (HS.out.only.trans (HMN.out.frame ho8).only)
        clear KQ ho8 HMN
        go_wp2_with fail
        refine (HAW.out _).mono ?_
        rintro e w4 ⟨rfl, ho⟩
        have HO4 := Lib.hid (HOE.out.trans ho); clear ho
        go_wp2
        go_ret
        exact ⟨rfl, HO4.out⟩
      · go_wp2_with fail
        refine wp_region_noPanic ?_
        refine wp_region_held_drew (S := (fun w' => w'.cell? ⟨g, 1, none⟩ = some (.int .i64 d.id) ∧ w'.cell? ⟨g, 2, none⟩ = some (.slice d.ao d.b.length d.cap))) (by kernel_rfl) (⟨x1, x2⟩) (fun hHeld => ?_)
        refine wpAnyH_take (i := 0) (v := ?_) rfl (by kernel_rfl) (by kernel_rfl) (by kernel_rfl) (fun _ _ _ h => h) (Or.inl ⟨by rfl, ?_⟩) (by assumption) ?_
        rotate_left
        · ((intro w hSw); (first | (go_simp; done) | (go_simp; with_reducible rfl)))
        (try simp only [Act.put, List.setIfInBounds_toArray, List.set_cons_zero, List.set_cons_succ, List.getElem_toArray, List.getElem_cons_succ, List.getElem_cons_zero])
        refine wpAnyH_take (i := 1) (v := ?_) rfl (by kernel_rfl) (by kernel_rfl) (by kernel_rfl) (fun _ _ _ h => h) (Or.inl ⟨by rfl, ?_⟩) (by assumption) ?_
        rotate_left
        · ((intro w hSw); (first | (go_simp; done) | (go_simp; with_reducible rfl)))
        (try simp only [Act.put, List.setIfInBounds_toArray, List.set_cons_zero, List.set_cons_succ, List.getElem_toArray, List.getElem_cons_succ, List.getElem_cons_zero])
        refine wpAnyH_take (i := 2) (v := ?_) rfl (by kernel_rfl) (by kernel_rfl) (by kernel_rfl) (fun _ _ _ h => h) (Or.inl ⟨by rfl, ?_⟩) (by assumption) ?_
        rotate_left
        · ((intro w hSw); (first | (go_simp; done) | (go_simp; with_reducible rfl)))
        (try simp only [Act.put, List.setIfInBounds_toArray, List.set_cons_zero, List.set_cons_succ, List.getElem_toArray, List.getElem_cons_succ, List.getElem_cons_zero])
        refine wpAnyH_take (i := 4) (v := ?_) rfl (by kernel_rfl) (by kernel_rfl) (by kernel_rfl) (fun _ _ _ h => h) (Or.inl ⟨by rfl, ?_⟩) (by assumption) ?_
        rotate_left
        · ((intro w hSw); (first | (go_simp; done) | (go_simp; with_reducible rfl)))
        (try simp only [Act.put, List.setIfInBounds_toArray, List.set_cons_zero, List.set_cons_succ, List.getElem_toArray, List.getElem_cons_succ, List.getElem_cons_zero])
        refine wpAnyH_take (i := 5) (v := ?_) rfl (by kernel_rfl) (by kernel_rfl) (by kernel_rfl) (fun _ _ _ h => h) (Or.inl ⟨by rfl, ?_⟩) (by assumption) ?_
        rotate_left
        · ((intro w hSw); (first | (go_simp; done) | (go_simp; with_reducible rfl)))
        (try simp only [Act.put, List.setIfInBounds_toArray, List.set_cons_zero, List.set_cons_succ, List.getElem_toArray, List.getElem_cons_succ, List.getElem_cons_zero])
        refine wpAnyH_ready (rs := [3]) (by kernel_rfl) (by simp) ?_
        refine AllReadyH.cons rfl (fun K hK => ?_) AllReadyH.nil
        go_simp
        (go_at_call 14; refine (sum_any d.id _).mono ?_; rintro e wc ⟨rfl, hoc⟩; have HHC := Lib.hid (HH5.out.only hoc); have KP := Lib.hid (HHC.out.mine.put HK.out HS.out.data d.cap hbl); unfold Ptr at KP; rw [hE] at KP; obtain ⟨y0, y1, y2, y3⟩ := HHC.out.mine.mine.box HS.out.box; clear hoc y0 y3 HH5)
        (try go_wp2_with fail)
        refine hK.out _ _ (⟨y1, y2⟩) (fun hHeld => ?_)
        clear hK K
        (try simp only [Act.put, List.setIfInBounds_toArray, List.set_cons_zero, List.set_cons_succ, List.getElem_toArray, List.getElem_cons_succ, List.getElem_cons_zero])
        refine wpAnyH_ready (rs := [6]) (by kernel_rfl) (by simp) ?_
        refine AllReadyH.cons rfl (fun K hK => ?_) AllReadyH.nil
        go_simp
        (go_at_call 17; refine KP.out.mono ?_; rintro e wd ⟨rfl, hmd, hbd⟩; have HHP := Lib.hid (HHC.out.beside hmd hbd); obtain ⟨z0, z1, z2, z3⟩ := hmd.mine.box HS.out.box; clear hmd hbd KP HHC z0 z3)
        (try go_wp2_with fail)
        refine hK.out _ _ (⟨z1, z2⟩) (fun hHeld => ?_)
        clear hK K
        (try simp only [Act.put, List.setIfInBounds_toArray, List.set_cons_zero, List.set_cons_succ, List.getElem_toArray, List.getElem_cons_succ, List.getElem_cons_zero])
        refine wpAnyH_take (i := 7) (v := ?_) rfl (by kernel_rfl) (by kernel_rfl) (by kernel_rfl) (fun _ _ _ h => h) (Or.inl ⟨by rfl, ?_⟩) (by assumption) ?_
        rotate_left
        · ((intro w hSw); (first | (go_simp; done) | (go_simp; with_reducible rfl)))
        (try simp only [Act.put, List.setIfInBounds_toArray, List.set_cons_zero, List.set_cons_succ, List.getElem_toArray, List.getElem_cons_succ, List.getElem_cons_zero])
        refine wpAnyH_done (by kernel_rfl) ?_ _
        refine NoPanic.normal ?_
        have hhE := Lib.hid hE
        have hq := HHP.out
        obtain ⟨A, hA⟩ := put_last hE HBD.out.1
        have HPK := Lib.hid (fun (x : Chunk) (hx : x ∈ L) h => put_keeps hE hx h)
        have HPD := Lib.hid (fun (j : Nat) (hj : j < L.length) h1 h2 => put_drops hE HBD.out.1 hj h1 h2)
        generalize putL (mostOf n) (roomOf r) (keyOf d.id) d.b L = M at hq hA HPK HPD
        have KL := Lib.hid hq.mine.listS
        have HHQ := Lib.hid hq
        have HAL := Lib.hid hA
        have hnl : M.length = A.length + 1 := by have := congrArg List.length hA; simpa using this
        clear hq HHP x1 x2 y1 y2 z1 z2 hE hbl hhE hA
        unfold Ptr at KL
        go_wp2_with fail
        refine KL.out.mono ?_
        rintro e w7 ⟨ao2, cp2, Gn, rfl, hrn, hon⟩
        have HHR := Lib.hid ((HHQ.out.only hon).only (Only.refl (fun _ => False) w7).drew)
        obtain ⟨g2, o2, rfl, hr2⟩ := hrn.at (j := A.length) (by rw [List.length_map]; omega)
        have hke2 : (M.map (·.key))[A.length]'(by rw [List.length_map]; omega) = keyOf d.id := by
          have h0 : (M.map (·.key))[A.length]? = some (keyOf d.id) := by rw [HAL.out]; simp
          exact (List.getElem?_eq_some_iff.1 h0).2
        rw [hke2] at hr2
        have rV : w7.drew.rangeAt g2 (o2 + A.length * 32) (sumC (keyOf d.id)) := range_only hr2 (Only.refl (fun _ => False) w7).drew
        obtain ⟨x0, x1, x2, x3⟩ := HHR.out.mine.mine.box HS.out.box
        clear x0 x2 x3 hr2 hke2 hrn hon KL HHQ
        have HI := Lib.hid (infoSum (keyOf d.id))
        have heq : ∀ w, (Op.equalIn 10000 38 (.agg (sumC (keyOf d.id)).toArray) (.agg (sumC (keyOf d.id)).toArray)).run Try.prog w = .ok true w := fun w => by rw [equalIn_sums w HK.out HK.out]; simp
        generalize hn2 : M.length = n2 at *
        have f1 : ((n2 : Int) == 0) = false := by rw [beq_eq_false_iff_ne]; omega
        have hA6 : A.length ≤ 1000000 := by (have := HHR.out.mine.mine.bounds; omega)
        have f2 : IntKind.i64.wrap ((n2 : Int) - 1) = (A.length : Int) := by simp [IntKind.wrap, IntKind.bits, IntKind.signed]; omega
        clear hA6
        have f3 : (A.length : Int) < (n2 : Int) := by omega
        have f4 : (0 : Int) ≤ (A.length : Int) := by omega
        have f5 : wrap64 ((n2 : Int) - 1) = (A.length : Int) := by (have hA7 : A.length ≤ 1000000 := by (have := HHR.out.mine.mine.bounds; omega)); unfold wrap64; omega
        have f6 : (n2 == 0) = false := by rw [beq_eq_false_iff_ne]; omega
        have HN2 := Lib.hid (And.intro hn2 hnl)
        clear hn2 hnl
        go_wp2_with fail
        refine wp_region_noPanic ?_
        refine wp_region_held_drew (S := (fun w' => w'.cell? ⟨g, 1, none⟩ = some (.int .i64 d.id) ∧ w'.rangeAt g2 (o2 + A.length * 32) (sumC (keyOf d.id)))) (by kernel_rfl) (⟨x1, rV⟩) (fun hHeld => ?_)
        refine wpAnyH_take (i := 0) (v := ?_) rfl (by kernel_rfl) (by kernel_rfl) (by kernel_rfl) (fun _ _ _ h => h) (Or.inl ⟨by rfl, ?_⟩) (by assumption) ?_
        rotate_left
        · ((intro w hSw); (first | (go_simp; done) | (go_simp; with_reducible rfl)))
        (try simp only [Act.put, List.setIfInBounds_toArray, List.set_cons_zero, List.set_cons_succ, List.getElem_toArray, List.getElem_cons_succ, List.getElem_cons_zero])
        refine wpAnyH_take (i := 1) (v := ?_) rfl (by kernel_rfl) (by kernel_rfl) (by kernel_rfl) (fun _ _ _ h => h) (Or.inl ⟨by rfl, ?_⟩) (by assumption) ?_
        rotate_left
        · ((intro w hSw); (first | (go_simp; done) | (go_simp; with_reducible rfl)))
        (try simp only [Act.put, List.setIfInBounds_toArray, List.set_cons_zero, List.set_cons_succ, List.getElem_toArray, List.getElem_cons_succ, List.getElem_cons_zero])
        refine wpAnyH_take (i := 2) (v := ?_) rfl (by kernel_rfl) (by kernel_rfl) (by kernel_rfl) (fun _ _ _ h => h) (Or.inl ⟨by rfl, ?_⟩) (by assumption) ?_
        rotate_left
        · ((intro w hSw); (first | (go_simp; done) | (go_simp; with_reducible rfl)))
        (try simp only [Act.put, List.setIfInBounds_toArray, List.set_cons_zero, List.set_cons_succ, List.getElem_toArray, List.getElem_cons_succ, List.getElem_cons_zero])
        refine wpAnyH_take (i := 3) (v := ?_) rfl (by kernel_rfl) (by kernel_rfl) (by kernel_rfl) (fun _ _ _ h => h) (Or.inl ⟨by rfl, ?_⟩) (by assumption) ?_
        rotate_left
        · ((intro w hSw); (first | (go_simp; done) | (go_simp; with_reducible rfl)))
        (try simp only [Act.put, List.setIfInBounds_toArray, List.set_cons_zero, List.set_cons_succ, List.getElem_toArray, List.getElem_cons_succ, List.getElem_cons_zero])
        refine wpAnyH_take (i := 4) (v := ?_) rfl (by kernel_rfl) (by kernel_rfl) (by kernel_rfl) (fun _ _ _ h => h) (Or.inl ⟨by rfl, ?_⟩) (by assumption) ?_
        rotate_left
        · ((intro w hSw); (first | (go_simp; done) | (go_simp; with_reducible rfl)))
        (try simp only [Act.put, List.setIfInBounds_toArray, List.set_cons_zero, List.set_cons_succ, List.getElem_toArray, List.getElem_cons_succ, List.getElem_cons_zero])
        refine wpAnyH_take (i := 5) (v := ?_) rfl (by kernel_rfl) (by kernel_rfl) (by kernel_rfl) (fun _ _ _ h => h) (Or.inl ⟨by rfl, ?_⟩) (by assumption) ?_
        rotate_left
        · ((intro w hSw); (first | (go_simp; done) | (go_simp; with_reducible rfl)))
        (try simp only [Act.put, List.setIfInBounds_toArray, List.set_cons_zero, List.set_cons_succ, List.getElem_toArray, List.getElem_cons_succ, List.getElem_cons_zero])
        refine wpAnyH_take (i := 6) (v := ?_) rfl (by kernel_rfl) (by kernel_rfl) (by kernel_rfl) (fun _ _ _ h => h) (Or.inl ⟨by rfl, ?_⟩) (by assumption) ?_
        rotate_left
        · ((intro w hSw); (first | (go_simp; done) | (go_simp; with_reducible rfl)))
        (try simp only [Act.put, List.setIfInBounds_toArray, List.set_cons_zero, List.set_cons_succ, List.getElem_toArray, List.getElem_cons_succ, List.getElem_cons_zero])
        refine wpAnyH_take (i := 7) (v := ?_) rfl (by kernel_rfl) (by kernel_rfl) (by kernel_rfl) (fun _ _ _ h => h) (Or.inl ⟨by rfl, ?_⟩) (by assumption) ?_
        rotate_left
        · ((intro w hSw); (first | (go_simp; done) | (go_simp; with_reducible rfl)))
        (try simp only [Act.put, List.setIfInBounds_toArray, List.set_cons_zero, List.set_cons_succ, List.getElem_toArray, List.getElem_cons_succ, List.getElem_cons_zero])
        refine wpAnyH_take (i := 8) (v := ?_) rfl (by kernel_rfl) (by kernel_rfl) (by kernel_rfl) (fun _ _ _ h => h) (Or.inl ⟨by rfl, ?_⟩) (by assumption) ?_
        rotate_left
        · ((intro w hSw); (first | (go_simp; done) | (go_simp; with_reducible rfl)))
        (try simp only [Act.put, List.setIfInBounds_toArray, List.set_cons_zero, List.set_cons_succ, List.getElem_toArray, List.getElem_cons_succ, List.getElem_cons_zero])
        refine wpAnyH_take (i := 9) (v := .agg (sumC (keyOf d.id)).toArray) rfl (by kernel_rfl) (by kernel_rfl) (by kernel_rfl) (fun _ _ _ h => h) (yieldsIf_load_mid (by rfl) 38 _ rfl g2 (o2 + A.length * 32) (by rfl) (sumC (keyOf d.id)) _ (fun w h => h.2) under38 rfl HI.out) (by assumption) ?_
        (try simp only [Act.put, List.setIfInBounds_toArray, List.set_cons_zero, List.set_cons_succ, List.getElem_toArray, List.getElem_cons_succ, List.getElem_cons_zero])
        refine wpAnyH_take (i := 10) (v := ?_) rfl (by kernel_rfl) (by kernel_rfl) (by kernel_rfl) (fun _ _ _ h => h) (Or.inl ⟨by rfl, ?_⟩) (by assumption) ?_
        rotate_left
        · ((intro w hSw); (first | (go_simp; done) | (go_simp; with_reducible rfl)))
        (try simp only [Act.put, List.setIfInBounds_toArray, List.set_cons_zero, List.set_cons_succ, List.getElem_toArray, List.getElem_cons_succ, List.getElem_cons_zero])
        refine wpAnyH_take (i := 11) (v := ?_) rfl (by kernel_rfl) (by kernel_rfl) (by kernel_rfl) (fun _ _ _ h => h) (Or.inl ⟨by rfl, ?_⟩) (by assumption) ?_
        rotate_left
        · ((intro w hSw); (first | (go_simp; done) | (go_simp; with_reducible rfl)))
        (try simp only [Act.put, List.setIfInBounds_toArray, List.set_cons_zero, List.set_cons_succ, List.getElem_toArray, List.getElem_cons_succ, List.getElem_cons_zero])
        refine wpAnyH_ready (rs := [12]) (by kernel_rfl) (by simp) ?_
        refine AllReadyH.cons rfl (fun K hK => ?_) AllReadyH.nil
        go_simp
        (go_at_call 14; refine (sum_agg d.id _).mono ?_; rintro e wc ⟨rfl, hoc⟩; have HHS := Lib.hid (HHR.out.only hoc); have rW := range_only rV hoc; replace x1 := hoc.cell x1 (fun h => h); clear hoc HHR rV)
        (try go_wp2_with fail)
        refine hK.out _ _ (⟨x1, rW⟩) (fun hHeld => ?_)
        clear hK K
        (try simp only [Act.put, List.setIfInBounds_toArray, List.set_cons_zero, List.set_cons_succ, List.getElem_toArray, List.getElem_cons_succ, List.getElem_cons_zero])
        refine wpAnyH_take (i := 13) (v := ?_) rfl (by kernel_rfl) (by kernel_rfl) (by kernel_rfl) (fun _ _ _ h => h) (Or.inl ⟨by rfl, ?_⟩) (by assumption) ?_
        rotate_left
        · ((intro w hSw); (first | (go_simp; done) | (go_simp; with_reducible rfl)))
        (try simp only [Act.put, List.setIfInBounds_toArray, List.set_cons_zero, List.set_cons_succ, List.getElem_toArray, List.getElem_cons_succ, List.getElem_cons_zero])
        refine wpAnyH_take (i := 14) (v := ?_) rfl (by kernel_rfl) (by kernel_rfl) (by kernel_rfl) (fun _ _ _ h => h) (Or.inl ⟨by rfl, ?_⟩) (by assumption) ?_
        rotate_left
        · ((intro w hSw); (first | (go_simp; done) | (go_simp; with_reducible rfl)))
        (try simp only [Act.put, List.setIfInBounds_toArray, List.set_cons_zero, List.set_cons_succ, List.getElem_toArray, List.getElem_cons_succ, List.getElem_cons_zero])
        refine wpAnyH_done (by kernel_rfl) ?_ _
        refine NoPanic.normal ?_
        clear heq f1 f2 f3 f4 f5 f6 rW x1 HAL HN2
        generalize hasL (keyOf d.id) L = th at *
        go_wp2_with fail
        go_loopg [18, 99] L.length (fun gg v18 v99 wl => ∃ j : Nat, v99 = .int .i64 j ∧ v18 = .bool (goneB (keyOf d.id) M L j) ∧ Hid (j + gg = L.length ∧ Hold W1 wl a (mostOf n) (roomOf r) (ds.length + L.length) M G gm (ones L) (.slice ao L.length cp) (L.map (·.key))))
        case atStart => exact ⟨0, rfl, rfl, Lib.hid ⟨by omega, HHS.out⟩⟩
        case round =>
          obtain ⟨j, rfl, rfl, hh⟩ := hrel
          obtain ⟨hjg, hH⟩ := hh.out
          clear hh HHS
          by_cases hj : j < L.length
          · have hj' : (j : Int) < (L.length : Int) := by omega
            have c0 : (0 : Int) ≤ j := by omega
            obtain ⟨g1, o1, rfl, hr⟩ := hH.at rfl (j := j) (by rw [List.length_map]; exact hj)
            have hke : (L.map (·.key))[j]'(by rw [List.length_map]; exact hj) = (L[j]).key := by simp
            rw [hke] at hr
            have HXL := Lib.hid (And.intro (List.getElem_mem hj) (And.intro (goneB_succ (k := keyOf d.id) (M := M) hj) (HPD.out j hj)))
            generalize hx : L[j] = x at *
            have HR := Lib.hid hr
            have HI := Lib.hid (infoSum x.key)
            have HHJ := Lib.hid hH
            have HXK := Lib.hid (HBD.out.2.2 x HXL.out.1)
            clear hr hke hH hx
            have HGBD := Lib.hid (rfl : goneB (keyOf d.id) M L j = goneB (keyOf d.id) M L j)
            generalize hgbd : goneB (keyOf d.id) M L j = gb at *
            have HGBE := Lib.hid hgbd; clear hgbd
            go_wp2_with (first
              | ((with_reducible refine gate_load 38 rfl ?_); (refine wpList_load_mid rfl 38 _ rfl g1 (o1 + j * 32) (by rfl) (sumC _) _ HR.out under38 rfl HI.out ?_))
              | ((with_reducible refine gate_store 38 rfl ?_); go_must (refine wpList_store_whole rfl 38 _ _ rfl wr.heap.size 0 (sumC x.key).toArray (by rfl) (by rfl) (by rw [ksize]; exact box_there wr _ 38) (by rw [ksize]; exact info38) (by kernel_rfl) ?_); intro w2 hw2; have hv := var_sum rfl hw2; clear hw2; have HV2 := Lib.hid hv.1; have HO2 := Lib.hid hv.2; clear hv)
              | fail)
            have HHK := Lib.hid ((HHJ.out.only HO2.out.1).only (Only.refl (fun _ => False) w2).drew)
            have rV : w2.drew.rangeAt wr.heap.size 0 (sumC x.key) := range_only HV2.out (Only.refl (fun _ => False) w2).drew
            have mV := HHK.out.map
            obtain ⟨x0, x1, x2, x3⟩ := HHK.out.mine.mine.box HS.out.box
            clear HHJ HR HV2 HO2 x0 x2 x3
            have heq : ∀ w, (Op.equalIn 10000 38 (.agg (sumC x.key).toArray) (.agg (sumC (keyOf d.id)).toArray)).run Try.prog w = .ok (decide (x.key = keyOf d.id)) w := fun w => equalIn_sums w HXK.out HK.out
            by_cases ck : x.key = keyOf d.id
            · rw [decide_eq_true ck] at heq
              have HK1 := Lib.hid (HPK.out x HXL.out.1 (Or.inl ck))
              have HGB := Lib.hid (show goneB (keyOf d.id) M L (j + 1) = gb from by rw [HXL.out.2.1]; simp [ck])
              clear ck
              refine wp_region_noPanic ?_
              refine wp_region_held_drew (S := (fun w' => w'.cell? ⟨g, 1, none⟩ = some (.int .i64 d.id) ∧ w'.rangeAt wr.heap.size 0 (sumC x.key) ∧ MapAt w' gm (ones L))) (by kernel_rfl) (⟨x1, rV, mV⟩) (fun hHeld => ?_)
              refine wpAnyH_take (i := 0) (v := .agg (sumC x.key).toArray) rfl (by kernel_rfl) (by kernel_rfl) (by kernel_rfl) (fun _ _ _ h => h) (yieldsIf_load_mid (by rfl) 38 _ rfl wr.heap.size 0 (by rfl) (sumC x.key) _ (fun w h => h.2.1) under38 rfl HI.out) (by assumption) ?_
              (try simp only [Act.put, List.setIfInBounds_toArray, List.set_cons_zero, List.set_cons_succ, List.getElem_toArray, List.getElem_cons_succ, List.getElem_cons_zero])
              refine wpAnyH_take (i := 1) (v := ?_) rfl (by kernel_rfl) (by kernel_rfl) (by kernel_rfl) (fun _ _ _ h => h) (Or.inl ⟨by rfl, ?_⟩) (by assumption) ?_
              rotate_left
              · ((intro w hSw); (first | (go_simp; done) | (go_simp; with_reducible rfl)))
              (try simp only [Act.put, List.setIfInBounds_toArray, List.set_cons_zero, List.set_cons_succ, List.getElem_toArray, List.getElem_cons_succ, List.getElem_cons_zero])
              refine wpAnyH_take (i := 2) (v := ?_) rfl (by kernel_rfl) (by kernel_rfl) (by kernel_rfl) (fun _ _ _ h => h) (Or.inl ⟨by rfl, ?_⟩) (by assumption) ?_
              rotate_left
              · ((intro w hSw); (first | (go_simp; done) | (go_simp; with_reducible rfl)))
              (try simp only [Act.put, List.setIfInBounds_toArray, List.set_cons_zero, List.set_cons_succ, List.getElem_toArray, List.getElem_cons_succ, List.getElem_cons_zero])
              refine wpAnyH_ready (rs := [3]) (by kernel_rfl) (by simp) ?_
              refine AllReadyH.cons rfl (fun K hK => ?_) AllReadyH.nil
              go_simp
              (go_at_call 14; refine (sum_agg d.id _).mono ?_; rintro e wc ⟨rfl, hoc⟩; have HHL := Lib.hid (HHK.out.only hoc); have rW := range_only rV hoc; have mW := mV.only hoc; replace x1 := hoc.cell x1 (fun h => h); clear hoc HHK rV mV)
              (try go_wp2_with fail)
              refine hK.out _ _ (⟨x1, rW, mW⟩) (fun hHeld => ?_)
              clear hK K
              (try simp only [Act.put, List.setIfInBounds_toArray, List.set_cons_zero, List.set_cons_succ, List.getElem_toArray, List.getElem_cons_succ, List.getElem_cons_zero])
              refine wpAnyH_take (i := 4) (v := ?_) rfl (by kernel_rfl) (by kernel_rfl) (by kernel_rfl) (fun _ _ _ h => h) (Or.inl ⟨by rfl, ?_⟩) (by assumption) ?_
              rotate_left
              · ((intro w hSw); (first | (go_simp; done) | (go_simp; with_reducible rfl)))
              (try simp only [Act.put, List.setIfInBounds_toArray, List.set_cons_zero, List.set_cons_succ, List.getElem_toArray, List.getElem_cons_succ, List.getElem_cons_zero])
              refine wpAnyH_take (i := 5) (v := ?_) rfl (by kernel_rfl) (by kernel_rfl) (by kernel_rfl) (fun _ _ _ h => h) (Or.inl ⟨by rfl, ?_⟩) (by assumption) ?_
              rotate_left
              · ((intro w hSw); (first | (go_simp; done) | (go_simp; with_reducible rfl)))
              (try simp only [Act.put, List.setIfInBounds_toArray, List.set_cons_zero, List.set_cons_succ, List.getElem_toArray, List.getElem_cons_succ, List.getElem_cons_zero])
              refine wpAnyH_take (i := 6) (v := undef) rfl (by kernel_rfl) (by kernel_rfl) (by kernel_rfl) (fun _ _ _ h => h) (Or.inr ⟨by rfl, rfl⟩) (by assumption) ?_
              (try simp only [Act.put, List.setIfInBounds_toArray, List.set_cons_zero, List.set_cons_succ, List.getElem_toArray, List.getElem_cons_succ, List.getElem_cons_zero])
              refine wpAnyH_take (i := 7) (v := undef) rfl (by kernel_rfl) (by kernel_rfl) (by kernel_rfl) (fun _ _ _ h => h) (Or.inr ⟨by rfl, rfl⟩) (by assumption) ?_
              (try simp only [Act.put, List.setIfInBounds_toArray, List.set_cons_zero, List.set_cons_succ, List.getElem_toArray, List.getElem_cons_succ, List.getElem_cons_zero])
              refine wpAnyH_take (i := 8) (v := undef) rfl (by kernel_rfl) (by kernel_rfl) (by kernel_rfl) (fun _ _ _ h => h) (Or.inr ⟨by rfl, rfl⟩) (by assumption) ?_
              (try simp only [Act.put, List.setIfInBounds_toArray, List.set_cons_zero, List.set_cons_succ, List.getElem_toArray, List.getElem_cons_succ, List.getElem_cons_zero])
              refine wpAnyH_take (i := 9) (v := undef) rfl (by kernel_rfl) (by kernel_rfl) (by kernel_rfl) (fun _ _ _ h => h) (Or.inr ⟨by rfl, rfl⟩) (by assumption) ?_
              (try simp only [Act.put, List.setIfInBounds_toArray, List.set_cons_zero, List.set_cons_succ, List.getElem_toArray, List.getElem_cons_succ, List.getElem_cons_zero])
              refine wpAnyH_take (i := 10) (v := ?_) rfl (by kernel_rfl) (by kernel_rfl) (by kernel_rfl) (fun _ _ _ h => h) (Or.inl ⟨by rfl, ?_⟩) (by assumption) ?_
              rotate_left
              · ((intro w hSw); (first | (go_simp; done) | (go_simp; with_reducible rfl)))
              (try simp only [Act.put, List.setIfInBounds_toArray, List.set_cons_zero, List.set_cons_succ, List.getElem_toArray, List.getElem_cons_succ, List.getElem_cons_zero])
              refine wpAnyH_done (by kernel_rfl) ?_ _
              refine NoPanic.normal ?_
              have HVW := Lib.hid rW
              have KH := Lib.hid (has_agg HHL.out.mine HXK.out HK1.out)
              clear rW mW x1 heq
              go_wp2_with (first | ((with_reducible refine gate_load 38 rfl ?_); (refine wpList_load_mid rfl 38 _ rfl wr.heap.size 0 (by rfl) (sumC _) _ HVW.out under38 rfl HI.out ?_)) | fail)
              refine KH.out.mono ?_
              rintro e wd ⟨rfl, hod⟩
              have HHM := Lib.hid (HHL.out.only hod)
              clear KH hod HHL HVW
              go_wp2
              go_roundg (L.length - (j + 1))
              case measure => omega
              case rel => exact ⟨j + 1, by go_num, by rw [HGB.out], Lib.hid ⟨by omega, HHM.out⟩⟩
            · rw [decide_eq_false ck] at heq
              by_cases hp : 0 < x.pins
              · have HLK := Lib.hid (fun (w : World) (h : MapAt w gm (ones L)) => (lookup_at h HBD.out.2.2 HBD.out.1 HXL.out.1).trans (by rw [if_pos hp]))
                have HK1 := Lib.hid (HPK.out x HXL.out.1 (Or.inr hp))
                have HGB := Lib.hid (show goneB (keyOf d.id) M L (j + 1) = gb from by rw [HXL.out.2.1]; simp [hp])
                clear ck hp
                refine wp_region_noPanic ?_
                refine wp_region_held_drew (S := (fun w' => w'.cell? ⟨g, 1, none⟩ = some (.int .i64 d.id) ∧ w'.rangeAt wr.heap.size 0 (sumC x.key) ∧ MapAt w' gm (ones L))) (by kernel_rfl) (⟨x1, rV, mV⟩) (fun hHeld => ?_)
                refine wpAnyH_take (i := 0) (v := .agg (sumC x.key).toArray) rfl (by kernel_rfl) (by kernel_rfl) (by kernel_rfl) (fun _ _ _ h => h) (yieldsIf_load_mid (by rfl) 38 _ rfl wr.heap.size 0 (by rfl) (sumC x.key) _ (fun w h => h.2.1) under38 rfl HI.out) (by assumption) ?_
                (try simp only [Act.put, List.setIfInBounds_toArray, List.set_cons_zero, List.set_cons_succ, List.getElem_toArray, List.getElem_cons_succ, List.getElem_cons_zero])
                refine wpAnyH_take (i := 1) (v := ?_) rfl (by kernel_rfl) (by kernel_rfl) (by kernel_rfl) (fun _ _ _ h => h) (Or.inl ⟨by rfl, ?_⟩) (by assumption) ?_
                rotate_left
                · ((intro w hSw); (first | (go_simp; done) | (go_simp; with_reducible rfl)))
                (try simp only [Act.put, List.setIfInBounds_toArray, List.set_cons_zero, List.set_cons_succ, List.getElem_toArray, List.getElem_cons_succ, List.getElem_cons_zero])
                refine wpAnyH_take (i := 2) (v := ?_) rfl (by kernel_rfl) (by kernel_rfl) (by kernel_rfl) (fun _ _ _ h => h) (Or.inl ⟨by rfl, ?_⟩) (by assumption) ?_
                rotate_left
                · ((intro w hSw); (first | (go_simp; done) | (go_simp; with_reducible rfl)))
                (try simp only [Act.put, List.setIfInBounds_toArray, List.set_cons_zero, List.set_cons_succ, List.getElem_toArray, List.getElem_cons_succ, List.getElem_cons_zero])
                refine wpAnyH_ready (rs := [3]) (by kernel_rfl) (by simp) ?_
                refine AllReadyH.cons rfl (fun K hK => ?_) AllReadyH.nil
                go_simp
                (go_at_call 14; refine (sum_agg d.id _).mono ?_; rintro e wc ⟨rfl, hoc⟩; have HHL := Lib.hid (HHK.out.only hoc); have rW := range_only rV hoc; have mW := mV.only hoc; replace x1 := hoc.cell x1 (fun h => h); clear hoc HHK rV mV)
                (try go_wp2_with fail)
                refine hK.out _ _ (⟨x1, rW, mW⟩) (fun hHeld => ?_)
                clear hK K
                (try simp only [Act.put, List.setIfInBounds_toArray, List.set_cons_zero, List.set_cons_succ, List.getElem_toArray, List.getElem_cons_succ, List.getElem_cons_zero])
                refine wpAnyH_take (i := 4) (v := ?_) rfl (by kernel_rfl) (by kernel_rfl) (by kernel_rfl) (fun _ _ _ h => h) (Or.inl ⟨by rfl, ?_⟩) (by assumption) ?_
                rotate_left
                · ((intro w hSw); (first | (go_simp; done) | (go_simp; with_reducible rfl)))
                (try simp only [Act.put, List.setIfInBounds_toArray, List.set_cons_zero, List.set_cons_succ, List.getElem_toArray, List.getElem_cons_succ, List.getElem_cons_zero])
                refine wpAnyH_take (i := 5) (v := ?_) rfl (by kernel_rfl) (by kernel_rfl) (by kernel_rfl) (fun _ _ _ h => h) (Or.inl ⟨by rfl, ?_⟩) (by assumption) ?_
                rotate_left
                · ((intro w hSw); (first | (go_simp; done) | (go_simp; with_reducible rfl)))
                (try simp only [Act.put, List.setIfInBounds_toArray, List.set_cons_zero, List.set_cons_succ, List.getElem_toArray, List.getElem_cons_succ, List.getElem_cons_zero])
                refine wpAnyH_take (i := 6) (v := ?_) rfl (by kernel_rfl) (by kernel_rfl) (by kernel_rfl) (fun _ _ _ h => h) (Or.inl ⟨by rfl, ?_⟩) (by assumption) ?_
                rotate_left
                · ((intro w hSw); (first | (go_simp; done) | (go_simp; with_reducible rfl)))
                (try simp only [Act.put, List.setIfInBounds_toArray, List.set_cons_zero, List.set_cons_succ, List.getElem_toArray, List.getElem_cons_succ, List.getElem_cons_zero])
                refine wpAnyH_take (i := 7) (v := .agg (sumC x.key).toArray) rfl (by kernel_rfl) (by kernel_rfl) (by kernel_rfl) (fun _ _ _ h => h) (yieldsIf_load_mid (by rfl) 38 _ rfl wr.heap.size 0 (by rfl) (sumC x.key) _ (fun w h => h.2.1) under38 rfl HI.out) (by assumption) ?_
                (try simp only [Act.put, List.setIfInBounds_toArray, List.set_cons_zero, List.set_cons_succ, List.getElem_toArray, List.getElem_cons_succ, List.getElem_cons_zero])
                refine wpAnyH_take (i := 8) (v := .int .i64 1) rfl (by kernel_rfl) (by kernel_rfl) (by kernel_rfl) (fun _ _ _ h => h) (yieldsIf_lookup (by rfl) 30 _ _ false rfl (.map (some gm)) (.agg (sumC x.key).toArray) _ (by rfl) (by rfl) (fun w h => HLK.out w h.2.2)) (by assumption) ?_
                (try simp only [Act.put, List.setIfInBounds_toArray, List.set_cons_zero, List.set_cons_succ, List.getElem_toArray, List.getElem_cons_succ, List.getElem_cons_zero])
                refine wpAnyH_take (i := 9) (v := ?_) rfl (by kernel_rfl) (by kernel_rfl) (by kernel_rfl) (fun _ _ _ h => h) (Or.inl ⟨by rfl, ?_⟩) (by assumption) ?_
                rotate_left
                · ((intro w hSw); (first | (go_simp; done) | (go_simp; with_reducible rfl)))
                (try simp only [Act.put, List.setIfInBounds_toArray, List.set_cons_zero, List.set_cons_succ, List.getElem_toArray, List.getElem_cons_succ, List.getElem_cons_zero])
                refine wpAnyH_take (i := 10) (v := ?_) rfl (by kernel_rfl) (by kernel_rfl) (by kernel_rfl) (fun _ _ _ h => h) (Or.inl ⟨by rfl, ?_⟩) (by assumption) ?_
                rotate_left
                · ((intro w hSw); (first | (go_simp; done) | (go_simp; with_reducible rfl)))
                (try simp only [Act.put, List.setIfInBounds_toArray, List.set_cons_zero, List.set_cons_succ, List.getElem_toArray, List.getElem_cons_succ, List.getElem_cons_zero])
                refine wpAnyH_done (by kernel_rfl) ?_ _
                refine NoPanic.normal ?_
                have HVW := Lib.hid rW
                have KH := Lib.hid (has_agg HHL.out.mine HXK.out HK1.out)
                clear rW mW x1 heq
                go_wp2_with (first | ((with_reducible refine gate_load 38 rfl ?_); (refine wpList_load_mid rfl 38 _ rfl wr.heap.size 0 (by rfl) (sumC _) _ HVW.out under38 rfl HI.out ?_)) | fail)
                refine KH.out.mono ?_
                rintro e wd ⟨rfl, hod⟩
                have HHM := Lib.hid (HHL.out.only hod)
                clear KH hod HHL HVW
                go_wp2
                go_roundg (L.length - (j + 1))
                case measure => omega
                case rel => exact ⟨j + 1, by go_num, by rw [HGB.out], Lib.hid ⟨by omega, HHM.out⟩⟩
              · have HLK := Lib.hid (fun (w : World) (h : MapAt w gm (ones L)) => (lookup_at h HBD.out.2.2 HBD.out.1 HXL.out.1).trans (by rw [if_neg hp]))
                have hp0 : x.pins = 0 := by omega
                have HG1 := Lib.hid (show goneB (keyOf d.id) M L (j + 1) = (gb && !hasL x.key M) from by rw [HXL.out.2.1, decide_eq_false hp, beq_eq_false_iff_ne.2 ck]; simp)
                have HDR := Lib.hid (HXL.out.2.2 hp0)
                clear hp ck
                refine wp_region_noPanic ?_
                refine wp_region_held_drew (S := (fun w' => w'.cell? ⟨g, 1, none⟩ = some (.int .i64 d.id) ∧ w'.rangeAt wr.heap.size 0 (sumC x.key) ∧ MapAt w' gm (ones L))) (by kernel_rfl) (⟨x1, rV, mV⟩) (fun hHeld => ?_)
                refine wpAnyH_take (i := 0) (v := .agg (sumC x.key).toArray) rfl (by kernel_rfl) (by kernel_rfl) (by kernel_rfl) (fun _ _ _ h => h) (yieldsIf_load_mid (by rfl) 38 _ rfl wr.heap.size 0 (by rfl) (sumC x.key) _ (fun w h => h.2.1) under38 rfl HI.out) (by assumption) ?_
                (try simp only [Act.put, List.setIfInBounds_toArray, List.set_cons_zero, List.set_cons_succ, List.getElem_toArray, List.getElem_cons_succ, List.getElem_cons_zero])
                refine wpAnyH_take (i := 1) (v := ?_) rfl (by kernel_rfl) (by kernel_rfl) (by kernel_rfl) (fun _ _ _ h => h) (Or.inl ⟨by rfl, ?_⟩) (by assumption) ?_
                rotate_left
                · ((intro w hSw); (first | (go_simp; done) | (go_simp; with_reducible rfl)))
                (try simp only [Act.put, List.setIfInBounds_toArray, List.set_cons_zero, List.set_cons_succ, List.getElem_toArray, List.getElem_cons_succ, List.getElem_cons_zero])
                refine wpAnyH_take (i := 2) (v := ?_) rfl (by kernel_rfl) (by kernel_rfl) (by kernel_rfl) (fun _ _ _ h => h) (Or.inl ⟨by rfl, ?_⟩) (by assumption) ?_
                rotate_left
                · ((intro w hSw); (first | (go_simp; done) | (go_simp; with_reducible rfl)))
                (try simp only [Act.put, List.setIfInBounds_toArray, List.set_cons_zero, List.set_cons_succ, List.getElem_toArray, List.getElem_cons_succ, List.getElem_cons_zero])
                refine wpAnyH_ready (rs := [3]) (by kernel_rfl) (by simp) ?_
                refine AllReadyH.cons rfl (fun K hK => ?_) AllReadyH.nil
                go_simp
                (go_at_call 14; refine (sum_agg d.id _).mono ?_; rintro e wc ⟨rfl, hoc⟩; have HHL := Lib.hid (HHK.out.only hoc); have rW := range_only rV hoc; have mW := mV.only hoc; replace x1 := hoc.cell x1 (fun h => h); clear hoc HHK rV mV)
                (try go_wp2_with fail)
                refine hK.out _ _ (⟨x1, rW, mW⟩) (fun hHeld => ?_)
                clear hK K
                (try simp only [Act.put, List.setIfInBounds_toArray, List.set_cons_zero, List.set_cons_succ, List.getElem_toArray, List.getElem_cons_succ, List.getElem_cons_zero])
                refine wpAnyH_take (i := 4) (v := ?_) rfl (by kernel_rfl) (by kernel_rfl) (by kernel_rfl) (fun _ _ _ h => h) (Or.inl ⟨by rfl, ?_⟩) (by assumption) ?_
                rotate_left
                · ((intro w hSw); (first | (go_simp; done) | (go_simp; with_reducible rfl)))
                (try simp only [Act.put, List.setIfInBounds_toArray, List.set_cons_zero, List.set_cons_succ, List.getElem_toArray, List.getElem_cons_succ, List.getElem_cons_zero])
                refine wpAnyH_take (i := 5) (v := ?_) rfl (by kernel_rfl) (by kernel_rfl) (by kernel_rfl) (fun _ _ _ h => h) (Or.inl ⟨by rfl, ?_⟩) (by assumption) ?_
                rotate_left
                · ((intro w hSw); (first | (go_simp; done) | (go_simp; with_reducible rfl)))
                (try simp only [Act.put, List.setIfInBounds_toArray, List.set_cons_zero, List.set_cons_succ, List.getElem_toArray, List.getElem_cons_succ, List.getElem_cons_zero])
                refine wpAnyH_take (i := 6) (v := ?_) rfl (by kernel_rfl) (by kernel_rfl) (by kernel_rfl) (fun _ _ _ h => h) (Or.inl ⟨by rfl, ?_⟩) (by assumption) ?_
                rotate_left
                · ((intro w hSw); (first | (go_simp; done) | (go_simp; with_reducible rfl)))
                (try simp only [Act.put, List.setIfInBounds_toArray, List.set_cons_zero, List.set_cons_succ, List.getElem_toArray, List.getElem_cons_succ, List.getElem_cons_zero])
                refine wpAnyH_take (i := 7) (v := .agg (sumC x.key).toArray) rfl (by kernel_rfl) (by kernel_rfl) (by kernel_rfl) (fun _ _ _ h => h) (yieldsIf_load_mid (by rfl) 38 _ rfl wr.heap.size 0 (by rfl) (sumC x.key) _ (fun w h => h.2.1) under38 rfl HI.out) (by assumption) ?_
                (try simp only [Act.put, List.setIfInBounds_toArray, List.set_cons_zero, List.set_cons_succ, List.getElem_toArray, List.getElem_cons_succ, List.getElem_cons_zero])
                refine wpAnyH_take (i := 8) (v := .int .i64 0) rfl (by kernel_rfl) (by kernel_rfl) (by kernel_rfl) (fun _ _ _ h => h) (yieldsIf_lookup (by rfl) 30 _ _ false rfl (.map (some gm)) (.agg (sumC x.key).toArray) _ (by rfl) (by rfl) (fun w h => HLK.out w h.2.2)) (by assumption) ?_
                (try simp only [Act.put, List.setIfInBounds_toArray, List.set_cons_zero, List.set_cons_succ, List.getElem_toArray, List.getElem_cons_succ, List.getElem_cons_zero])
                refine wpAnyH_take (i := 9) (v := ?_) rfl (by kernel_rfl) (by kernel_rfl) (by kernel_rfl) (fun _ _ _ h => h) (Or.inl ⟨by rfl, ?_⟩) (by assumption) ?_
                rotate_left
                · ((intro w hSw); (first | (go_simp; done) | (go_simp; with_reducible rfl)))
                (try simp only [Act.put, List.setIfInBounds_toArray, List.set_cons_zero, List.set_cons_succ, List.getElem_toArray, List.getElem_cons_succ, List.getElem_cons_zero])
                refine wpAnyH_take (i := 10) (v := ?_) rfl (by kernel_rfl) (by kernel_rfl) (by kernel_rfl) (fun _ _ _ h => h) (Or.inl ⟨by rfl, ?_⟩) (by assumption) ?_
                rotate_left
                · ((intro w hSw); (first | (go_simp; done) | (go_simp; with_reducible rfl)))
                (try simp only [Act.put, List.setIfInBounds_toArray, List.set_cons_zero, List.set_cons_succ, List.getElem_toArray, List.getElem_cons_succ, List.getElem_cons_zero])
                refine wpAnyH_done (by kernel_rfl) ?_ _
                refine NoPanic.normal ?_
                cases h2 : hasL x.key M with
                | true =>
                  rw [h2, Bool.not_true, Bool.and_false] at HG1
                  cases gb with
                  | true =>
                    have HVW := Lib.hid rW
                    have KH := Lib.hid (has_agg HHL.out.mine HXK.out h2)
                    clear rW mW x1 heq
                    go_wp2_with (first | ((with_reducible refine gate_load 38 rfl ?_); (refine wpList_load_mid rfl 38 _ rfl wr.heap.size 0 (by rfl) (sumC _) _ HVW.out under38 rfl HI.out ?_)) | fail)
                    refine KH.out.mono ?_
                    rintro e wd ⟨rfl, hod⟩
                    have HHM := Lib.hid (HHL.out.only hod)
                    have HVX := Lib.hid (range_only HVW.out hod)
                    clear KH hod HHL HVW
                    have KH := Lib.hid (has_agg HHM.out.mine HXK.out h2)
                    go_wp2_with (first | ((with_reducible refine gate_load 38 rfl ?_); (refine wpList_load_wanted (by rfl) 38 _ rfl wr.heap.size 0 (by rfl) (sumC _) _ HVX.out under38 rfl HI.out ?_)) | fail)
                    refine KH.out.mono ?_
                    rintro e we ⟨rfl, hoe⟩
                    replace HHM := Lib.hid (HHM.out.only hoe)
                    clear KH hoe
                    go_wp2
                    go_roundg (L.length - (j + 1))
                    case measure => omega
                    case rel => exact ⟨j + 1, by go_num, by (first | (rw [HG1.out]; done) | (rw [HG1.out]; rfl)), Lib.hid ⟨by omega, HHM.out⟩⟩
                  | false =>
                    have HVW := Lib.hid rW
                    have KH := Lib.hid (has_agg HHL.out.mine HXK.out h2)
                    clear rW mW x1 heq
                    go_wp2_with (first | ((with_reducible refine gate_load 38 rfl ?_); (refine wpList_load_mid rfl 38 _ rfl wr.heap.size 0 (by rfl) (sumC _) _ HVW.out under38 rfl HI.out ?_)) | fail)
                    refine KH.out.mono ?_
                    rintro e wd ⟨rfl, hod⟩
                    have HHM := Lib.hid (HHL.out.only hod)
                    have HVX := Lib.hid (range_only HVW.out hod)
                    clear KH hod HHL HVW
                    go_wp2
                    go_roundg (L.length - (j + 1))
                    case measure => omega
                    case rel => exact ⟨j + 1, by go_num, by (first | (rw [HG1.out]; done) | (rw [HG1.out]; rfl)), Lib.hid ⟨by omega, HHM.out⟩⟩
                | false =>
                  obtain ⟨hth, hall⟩ := HDR.out h2
                  have hgb : gb = true := by
                    rw [← HGBE.out]
                    unfold goneB
                    rw [List.all_eq_true]
                    intro y hy
                    by_cases hyp : y.pins = 0
                    · rw [hall y hy hyp]; simp
                    · rw [decide_eq_true (show 0 < y.pins by omega)]; simp
                  rw [h2, hgb] at HG1
                  subst hgb
                  subst hth
                  clear hall
                  have HVW := Lib.hid rW
                  have KH := Lib.hid (has_agg HHL.out.mine HXK.out h2)
                  clear rW mW x1 heq
                  go_wp2_with (first | ((with_reducible refine gate_load 38 rfl ?_); (refine wpList_load_mid rfl 38 _ rfl wr.heap.size 0 (by rfl) (sumC _) _ HVW.out under38 rfl HI.out ?_)) | fail)
                  refine KH.out.mono ?_
                  rintro e wd ⟨rfl, hod⟩
                  have HHM := Lib.hid (HHL.out.only hod)
                  have HVX := Lib.hid (range_only HVW.out hod)
                  clear KH hod HHL HVW
                  have KH := Lib.hid (has_agg HHM.out.mine HXK.out h2)
                  go_wp2_with (first | ((with_reducible refine gate_load 38 rfl ?_); (refine wpList_load_wanted (by rfl) 38 _ rfl wr.heap.size 0 (by rfl) (sumC _) _ HVX.out under38 rfl HI.out ?_)) | fail)
                  refine KH.out.mono ?_
                  rintro e we ⟨rfl, hoe⟩
                  replace HHM := Lib.hid (HHM.out.only hoe)
                  clear KH hoe
                  go_wp2
                  go_roundg (L.length - (j + 1))
                  case measure => omega
                  case rel => exact ⟨j + 1, by go_num, by (first | (rw [HG1.out]; done) | (rw [HG1.out]; rfl)), Lib.hid ⟨by omega, HHM.out⟩⟩
          · have hj' : ¬ (j : Int) < (L.length : Int) := by omega
            have HOE := Lib.hid (HS.out.only.trans hH.mine.only)
            clear hH
            go_wp2_with fail
            refine (HAW.out _).mono ?_
            rintro e w4 ⟨rfl, ho⟩
            have HO4 := Lib.hid (HOE.out.trans ho); clear ho
            go_wp2
            go_ret
            exact ⟨rfl, HO4.out⟩
end Go.Proofs.Ytafeiankpckijaa
