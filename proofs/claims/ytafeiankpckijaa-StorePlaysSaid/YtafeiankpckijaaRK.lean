/- slices.Clone and Get once more, with the row that they hand back. -/
import Derived.Test.YtafeiankpckijaaRJ
namespace Go.Proofs.Ytafeiankpckijaa
open Go.RowKit
set_option linter.unusedSimpArgs false
set_option linter.unusedVariables false
attribute [local go_sem ↓] Go.wp_at_zero Go.wp_at_succ
/-- A clone's row, in new memory. -/
def ClonedOwn (b : List Int) (w : World) (e : Ending) (w' : World) : Prop :=
  ∃ bo cb, e = .returned (.slice bo b.length cb) ∧ w'.ownsRow w.heap.size 5 1 (.slice bo b.length cb) b.length (b.map (Value.int .u8)) ∧ Only (fun _ => False) w w'
set_option maxHeartbeats 400000 in
theorem cloneown_nil (n cap : Nat) (b : List Int) (hb : b = []) (w : World) : Calls Try.prog 29 #[.slice none n cap] w (ClonedOwn b w) := by
  have hq := fun (w : World) => Lib.run_eql_slice_nil (P := Try.prog) w 22 5 none n cap 0 0 under22
  have HB := Lib.hid hb; clear hb
  go_enter Try.func29, Try.ntmps29
  go_wp2
  go_ret
  exact ⟨none, 0, by rw [HB.out]; rfl, by rw [HB.out]; exact World.ownsRow_nil _ _ _ _, Only.refl _ _⟩
set_option maxHeartbeats 400000 in
theorem cloneown_row (a : Addr) (b : List Int) (cap : Nat) (w : World) (hm : b.length ≤ 140737488351232) (hc : Bytes w (some a) b) :
    Calls Try.prog 29 #[.slice (some a) b.length cap] w (ClonedOwn b w) := by
  have hq := fun (w : World) => Lib.run_eql_slice_nil (P := Try.prog) w 22 5 (some a) b.length cap 0 0 under22
  obtain ⟨i0, hi, hz0, hz1, hz2⟩ := info_parts info5
  have hnews : ∀ j u, (b.map (Value.int .u8))[j]? = some u → w.cell? (a.add j) = some u := by
    intro j u hu
    obtain ⟨hj, he⟩ := List.getElem?_eq_some_iff.1 hu
    simp at hj
    obtain ⟨_, ha, h⟩ := hc j hj
    obtain rfl := Option.some.inj ha
    rw [h, ← he]; simp [List.getD, hj]
  have HN := Lib.hid hnews; clear hnews hc
  go_enter Try.func29, Try.ntmps29
  go_wp2_with (at_builtin; refine wpList_append_own _ rfl (.tmp 5) (.tmp 6) 22 rfl w.heap.size 5 i0 (.int .u8 0) 1 1 under22 hi hz0 hz1 hz2 rfl (by decide) _ 0 [] rfl ?c0 a b.length cap (b.map (Value.int .u8)) rfl (by simp) ?c1 ?c2 ?c3 ?c4 ?c5 ?_)
  case c0 => exact ⟨rfl, Or.inr ⟨w.heap.size, 0, #[], rfl, Nat.le_refl _, heap_alloc_new _ _, Nat.le_refl _, Nat.zero_le _, rfl, rfl⟩⟩
  case c1 => intro j u hu; have := HN.out j u hu; rw [World.cell?_alloc_lt _ _ _ (block_lt_of_cell this)]; exact this
  case c2 => intro u hu; simp at hu; obtain ⟨x, _, rfl⟩ := hu; rfl
  case c3 => unfold maxLen; omega
  case c4 => omega
  case c5 => simp
  intro v' w1 hown hgrow hne
  try simp only [Nat.zero_add, List.nil_append] at hown
  have hbel : Below w.heap.size w w1 := ((Below.refl _ _).alloc (Nat.le_refl _) _).grown hgrow (by simp) (fun k hk => by simp [Value.ownBlock] at hk; omega)
  obtain ⟨bo, cb, hv⟩ := own_shape hown
  subst hv
  have HOW := Lib.hid hown; clear hown hgrow hne
  go_wp2
  go_ret
  exact ⟨bo, cb, rfl, HOW.out, Only.of_below hbel |>.mono (fun _ _ h => h)⟩
theorem cloneown_any (ao : Option Addr) (b : List Int) (cap : Nat) (w : World) (hm : b.length ≤ 140737488351232) (hc : Bytes w ao b) :
    Calls Try.prog 29 #[.slice ao b.length cap] w (ClonedOwn b w) := by
  cases ao with
  | some a => exact cloneown_row a b cap w hm hc
  | none =>
    have hb : b = [] := by
      cases b with
      | nil => rfl
      | cons x b => obtain ⟨ad, h, _⟩ := hc 0 (by simp); cases h
    exact cloneown_nil _ cap b hb w
set_option maxHeartbeats 1000000 in
theorem getown_yes (w : World) (a : Nat) (F : Nat → Prop) (c : C) (l r : List Nat) (E : List (Nat × Nat)) (ch : Nat → Chunk) (k : Nat) (hk : k < 65536) {j x : Nat} (h : Good w a F c (l ++ x :: r) E ch) (hs : seek k E 0 = some (j, x)) :
    Calls Try.prog 13 #[.pointer (some ⟨a, 0, none⟩), .agg (sumC k).toArray] w fun e w' => ∃ bo cb, e = .returned (.tuple #[.slice bo (ch x).b.length cb, .int .i64 0]) ∧
      w'.ownsRow w.heap.size 5 1 (.slice bo (ch x).b.length cb) (ch x).b.length ((ch x).b.map (Value.int .u8)) ∧
      Good w' a F ((c.unlink x).link x) (l ++ r ++ [x]) E ch ∧ Only F w w' := by
  have kf := find_yes (w.alloc (.cells (sumC k).toArray 38)) a c k E (h.mem.alloc _) hk h.ents h.elt hs
  have KF := Lib.hid kf; clear kf
  have HR := Lib.hid (box_range w (sumC k) 38)
  have HI := Lib.hid (infoSum k)
  have HA := Lib.hid (Nat.ne_of_gt h.mem.lt_a)
  have HS := Lib.hid hs; clear hs
  have H := Lib.hid h; clear h
  go_enter Try.func13, Try.ntmps13
  go_wp2_with ((with_reducible refine gate_load 38 rfl ?_); refine wpList_load_mid rfl 38 _ rfl w.heap.size 0 (by rfl) (sumC k) _ HR.out under38 rfl HI.out ?_)
  refine KF.out.mono ?_
  rintro e w2 ⟨rfl, ho2⟩
  have ho3 := ((Only.refl (fun _ => False) w).alloc (.cells (sumC k).toArray 38)).trans ho2
  clear ho2
  have hg2 := H.out.only ho3 (fun _ _ h => h)
  have HO := Lib.hid ho3; clear ho3
  have KU := Lib.hid (unlink_any w2 a c x hg2.mem (hg2.link.lt x (by simp)) hg2.link.spotP hg2.link.spotN)
  have HG2 := Lib.hid hg2; clear hg2
  go_wp2_with fail
  refine KU.out.mono ?_
  rintro e w3 ⟨rfl, hm3, ho3⟩
  have hni : x ∉ l ++ r := fun hm => by
    have hnd := HG2.out.link.nodup
    rw [List.nodup_append] at hnd
    rcases List.mem_append.1 hm with hm | hm
    · exact hnd.2.2 x hm x (by simp) rfl
    · exact (List.nodup_cons.1 hnd.2.1).1 hm
  have KL := Lib.hid (link_any w3 a (c.unlink x) x hm3 (HG2.out.link.lt x (by simp)) HG2.out.link.unlink.spotY)
  have HO3 := Lib.hid ho3; clear ho3 hm3
  go_wp2_with fail
  refine KL.out.mono ?_
  rintro e w4 ⟨rfl, hm4, ho4⟩
  have hg4 := HG2.out.touched hm4 (HO3.out.trans ho4)
  have ho5 : Only F w w4 := (HO.out.mono (fun _ _ h => h.elim)).trans ((HO3.out.trans ho4).mono (fun k _ hk => by rcases hk with rfl | rfl; exact HG2.out.own _ (Or.inl rfl); exact HG2.out.own _ (Or.inr (Or.inl rfl))))
  have hsl : w4.cell? ⟨a, 0, none⟩ = some (.slice (some ⟨c.gs, 0, none⟩) c.n c.caps) := hg4.mem.cslots
  have hdt : w4.cell? ⟨c.gs, x * 36 + 32, none⟩ = some (.slice (c.da x) (ch x).b.length (c.dc x)) := by rw [← HG2.out.len x (by simp)]; exact hg4.mem.cdat (i := x) (HG2.out.link.lt x (by simp))
  have KC := Lib.hid (cloneown_any (c.da x) (ch x).b (c.dc x) w4 (by have h1 := HG2.out.fits; have h2 := HG2.out.room.2; have h3 := HG2.out.len x (by simp); rw [sumB_app] at h1; simp only [sumB] at h1; omega)
    (fun j hj => by obtain ⟨ad, h1, h2, _⟩ := hg4.data x (by simp) j hj; exact ⟨ad, h1, h2⟩))
  have b0 : (0 : Int) ≤ x := by omega
  have b1 : (x : Int) < c.n := by have := HG2.out.link.lt x (by simp); omega
  have HG4 := Lib.hid hg4; clear hg4 hm4 ho4 hni
  have HO5 := Lib.hid ho5; clear ho5
  go_wp2_with fail
  refine KC.out.mono ?_
  rintro e w5 ⟨bo, cb, rfl, hd5, ho6⟩
  have HD5 := Lib.hid hd5; clear hd5
  have HO6 := Lib.hid ho6; clear ho6
  go_wp2
  go_ret2
  exact ⟨bo, cb, rfl, own_base HD5.out HO5.out.size, HG4.out.only HO6.out (fun _ _ h => h), HO5.out.trans (HO6.out.mono (fun _ _ h => h.elim))⟩
theorem rep_getown {w : World} {a most room p k : Nat} {F : Nat → Prop} {L : List Chunk} (h : Rep w a F most room p L) (hk : k < 65536) : Calls Try.prog 13 #[Ptr a, Sum_ k] w fun e w' => ∃ bo cb, e = .returned (.tuple #[.slice bo (dataOf k L).length cb, .int .i64 (getE k L)]) ∧
      w'.ownsRow w.heap.size 5 1 (.slice bo (dataOf k L).length cb) (dataOf k L).length ((dataOf k L).map (Value.int .u8)) ∧ Rep w' a F most room p (touch k L) ∧ Only F w w' := by
  rcases h.cases k with ⟨c, l, x, r, E, ch, j, hg, hs, rfl, h2, h3, h4, h5, h6⟩ | ⟨c, ord, E, ch, hg, hs, rfl, h2, h3, h4⟩
  · have e1 : dataOf k (l.map ch ++ ch x :: r.map ch) = (ch x).b := by unfold dataOf; rw [split_own h4 h5 h6]; rfl
    have e2 : touch k (l.map ch ++ ch x :: r.map ch) = (l ++ r ++ [x]).map ch := by unfold touch; rw [split_oth h4 h5 h6, split_own h4 h5 h6]; simp
    refine (getown_yes w a F c l r E ch k hk hg hs).mono ?_
    rintro e w' ⟨bo, cb, rfl, h7, h8, h9⟩
    refine ⟨bo, cb, by rw [e1, getE, has_split h4]; rfl, by rw [e1]; exact h7, ?_, h9⟩
    rw [e2]
    refine Rep.mk' h8 rfl h2 h3 ?_
    intro y hy; exact h.pins y (by simp at hy ⊢; rcases hy with hy | hy | hy <;> simp [hy])
  · have e1 : own k (ord.map ch) = [] := by unfold own; rw [List.filter_eq_nil_iff.2 (by simpa using h4)]
    have e2 : touch k (ord.map ch) = ord.map ch := by unfold touch; rw [e1]; unfold oth; rw [List.filter_eq_self.2 (by simpa using h4)]; simp
    refine (get_no w a F c _ E ch k hk hg hs).mono ?_
    rintro e w' ⟨rfl, ho⟩
    have e3 : dataOf k (ord.map ch) = [] := by unfold dataOf; rw [e1]; rfl
    refine ⟨none, 0, by rw [e3, getE, has_none h4]; rfl, by rw [e3]; exact World.ownsRow_nil _ _ _ _, ?_, ho.mono (fun _ _ h => h.elim)⟩
    rw [e2]; exact h.frame ho
section
variable {W w w' : World} {a most room p k : Nat} {L : List Chunk} {G : Nat → Prop}
theorem Mine2.getOwn (h : Mine2 W w a most room p L G) (hk : k < 65536) : Calls Try.prog 13 #[Ptr a, Sum_ k] w fun e w' => ∃ bo cb, e = .returned (.tuple #[.slice bo (dataOf k L).length cb, .int .i64 (getE k L)]) ∧
      w'.ownsRow w.heap.size 5 1 (.slice bo (dataOf k L).length cb) (dataOf k L).length ((dataOf k L).map (Value.int .u8)) ∧ Mine2 W w' a most room p (touch k L) (Ytafeiankpckijaa.grow G w w') ∧ Beside G w w' := by
  obtain ⟨F, h1, h2, h3⟩ := h.rep
  refine (rep_getown h1 hk).mono ?_
  rintro e w' ⟨bo, cb, rfl, hd, hr, ho⟩
  refine ⟨bo, cb, rfl, hd, ⟨⟨F, hr, h2, fun y hy hf => ?_⟩, fun y hy => ?_, h.only.trans' ho (fun i hi hf => by have := h2 i hf; omega)⟩, Only.mono ho (fun i hi hf hg => h3 i hg hf)⟩
  · rcases hy with hg | hn
    · exact h3 y hg hf
    · have := h1.low y hf; omega
  · have hs := ho.size
    have hs2 := h.only.size
    rcases hy with hg | hn
    · have := h.low y hg; omega
    · omega
/-- Put of bytes that lie beside the store. -/
theorem Mine2.putIn (h : Mine2 W w a most room p L G) (hk : k < 65536) {ao : Option Addr} {b : List Int} (hd : DataAt w G ao b) (cap : Nat) (hl : b.length ≤ 1000000) :
    Calls Try.prog 17 #[Ptr a, Sum_ k, .slice ao b.length cap] w fun e w' => e = .returned (.int .i64 (putE most room k b.length L)) ∧ Mine2 W w' a most room p (putL most room k b L) G ∧ Beside G w w' := by
  obtain ⟨F, h1, h2, h3⟩ := h.rep
  refine (rep_put h1 hk (hd.mono (fun y hy hf => h3 y hy hf)) hl).mono ?_
  rintro e w' ⟨rfl, ht⟩; exact ⟨rfl, h.step h1 h2 h3 ht⟩
/-- The other store has turned, in its header, and has made new blocks. -/
theorem Mine2.turn {r : Nat} (h : Mine2 W w a most room p L G) (hr : G r) (ho : Only (fun y => y = r) w w') : Mine2 W w' a most room p L (Ytafeiankpckijaa.grow G w w') := by
  obtain ⟨F, h1, h2, h3⟩ := h.rep
  have hs := ho.size
  have hs2 := h.only.size
  refine ⟨⟨F, h1.apart ho (fun k hk e => h3 k (by rw [e]; exact hr) hk), h2, fun y hy hf => ?_⟩, fun y hy => ?_, h.only.trans' ho (fun i hi e => by have := (h.low r hr).1; omega)⟩
  · rcases hy with hg | hn
    · exact h3 y hg hf
    · have := h1.low y hf; omega
  · rcases hy with hg | hn
    · have := h.low y hg; omega
    · omega
theorem Mine2.evict (h : Mine2 W w a most room p L G) (hk : k < 65536) : Calls Try.prog 20 #[Ptr a, Sum_ k] w fun e w' => e = .returned (.int .i64 (getE k L)) ∧ Mine2 W w' a most room p (oth k L) G ∧ Beside G w w' := by
  obtain ⟨F, h1, h2, h3⟩ := h.rep
  refine (rep_evict h1 hk).mono ?_
  rintro e w' ⟨rfl, ht⟩; exact ⟨rfl, h.step h1 h2 h3 ht⟩
theorem Mine2.more (h : Mine2 W w a most room p L G) {q : Nat} (hq : p ≤ q) : Mine2 W w a most room q L G := by
  obtain ⟨F, h1, h2, h3⟩ := h.rep; exact ⟨⟨F, h1.more hq, h2, h3⟩, h.low, h.only⟩
end
/-- The store and the document's one: the same list in both. -/
structure Pair (W w : World) (a r most room p : Nat) (L : List Chunk) (G G1 : Nat → Prop) : Prop where
  mine : Mine2 W w a most room p L G1
  ref : RefL W w r most room L G
  sub : ∀ y, G y → G1 y
theorem RefL.rG {W w : World} {r most room : Nat} {L : List Chunk} {G : Nat → Prop} (h : RefL W w r most room L G) : G r := by obtain ⟨R, v, _, h⟩ := h; exact h.rG
theorem RefL.low {W w : World} {r most room : Nat} {L : List Chunk} {G : Nat → Prop} (h : RefL W w r most room L G) : ∀ y, G y → W.heap.size ≤ y ∧ y < w.heap.size := by obtain ⟨R, v, _, h⟩ := h; exact h.low
theorem Pair.only {W w w' : World} {a r most room p : Nat} {L : List Chunk} {G G1 : Nat → Prop} (h : Pair W w a r most room p L G G1) (ho : Only (fun _ => False) w w') : Pair W w' a r most room p L G G1 := ⟨h.mine.frame ho, h.ref.only ho, h.sub⟩
theorem Pair.grown {W w w' : World} {a r most room p : Nat} {L : List Chunk} {G G1 : Nat → Prop} (h : Pair W w a r most room p L G G1) (ho : Only (fun _ => False) w w') : Pair W w' a r most room p L G (grow G1 w w') := ⟨h.mine.grow ho (fun y hy => hy), h.ref.only ho, fun y hy => Or.inl (h.sub y hy)⟩
end Go.Proofs.Ytafeiankpckijaa
