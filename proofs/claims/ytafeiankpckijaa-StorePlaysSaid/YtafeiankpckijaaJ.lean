/- The store's smaller methods: Made, Len, Bytes, Has, Pin, Unpin, Evict, Get; what each does to a store that is as it should be. -/
import Derived.Test.YtafeiankpckijaaH
import Derived.Test.YtafeiankpckijaaI
namespace Go.Proofs.Ytafeiankpckijaa
open Go.RowKit
set_option linter.unusedSimpArgs false
set_option linter.unusedVariables false
attribute [local go_sem ↓] Go.wp_at_zero Go.wp_at_succ
theorem box_range (w : World) (cs : List Value) (t : TypeId) : (w.alloc (.cells cs.toArray t)).rangeAt w.heap.size 0 cs := fun j v hj => by
  rw [Nat.zero_add, cell_of_row _ _ _ _ _ _ (heap_alloc_new _ _)]; simpa using hj
theorem infoSum (k : Nat) : (Try.prog.info? 38).map (·.size) = some (sumC k).length := by rw [info38, sumC_len]
namespace Good
variable {w w' : World} {a : Nat} {F G : Nat → Prop} {c : C} {ord l r : List Nat} {E : List (Nat × Nat)} {ch : Nat → Chunk}
/-- One is used. -/
theorem touched {i : Nat} (h : Good w a F c (l ++ i :: r) E ch) (hm : Mem w' a ((c.unlink i).link i)) (ho : Only (fun k => k = a ∨ k = c.gs) w w') :
    Good w' a F ((c.unlink i).link i) (l ++ r ++ [i]) E ch := by
  have hnd := h.link.nodup
  rw [List.nodup_append] at hnd
  obtain ⟨d1, d2, d3⟩ := hnd
  rw [List.nodup_cons] at d2
  have hni : i ∉ l ++ r := fun hm => by
    rcases List.mem_append.1 hm with hm | hm
    · exact d3 i hm i (by simp) rfl
    · exact d2.1 hm
  have hmem : ∀ j, j ∈ l ++ r ++ [i] ↔ j ∈ l ++ i :: r := fun j => by simp only [List.mem_append, List.mem_cons, List.not_mem_nil, or_false]; exact ⟨fun h => by { rcases h with (h | h) | h; exact Or.inl h; exact Or.inr (Or.inr h); exact Or.inr (Or.inl h) }, fun h => by { rcases h with h | h | h; exact Or.inl (Or.inl h); exact Or.inr h; exact Or.inl (Or.inr h) }⟩
  have hlen : (l ++ r ++ [i]).length = (l ++ i :: r).length := by simp only [List.length_append, List.length_cons, List.length_nil]; omega
  have hi := h.link.lt i (by simp)
  have hsum : sumB ((c.unlink i).link i) (l ++ r ++ [i]) = sumB c (l ++ i :: r) := by
    rw [show sumB ((c.unlink i).link i) (l ++ r ++ [i]) = sumB c (l ++ r ++ [i]) from sumB_congr fun _ _ => rfl]
    simp only [sumB_app, sumB]; omega
  have hfour : ∀ k, Four a ((c.unlink i).link i) k ↔ Four a c k := fun k => Iff.rfl
  exact ⟨hm, h.link.unlink.link hi hni, h.ents, h.most, h.n64, h.n1, h.room, fun p hp => by obtain ⟨h1, h2⟩ := h.emem p hp; exact ⟨(hmem _).2 h1, h2⟩,
    fun j hj => h.eall j ((hmem _).1 hj), h.enod, by rw [hlen]; exact h.elen, h.fnod, fun x hx => by obtain ⟨h1, h2⟩ := h.flt x hx; exact ⟨h1, fun hh => h2 ((hmem _).1 hh)⟩,
    by rw [hlen]; exact h.flen, h.fcap, fun j hj => h.key j ((hmem _).1 hj), fun j hj => h.pins j ((hmem _).1 hj), fun j hj => h.len j ((hmem _).1 hj),
    fun j hj => (h.data j ((hmem _).1 hj)).frame (fun k hk => ho.block k (h.low k hk.1) (fun hh => hk.2 (by rcases hh with rfl | rfl; exact Or.inl rfl; exact Or.inr (Or.inl rfl)))),
    by rw [hsum]; exact h.bytes, by rw [hsum]; exact h.fits, h.own, fun k hk => Nat.lt_of_lt_of_le (h.low k hk) ho.size⟩
/-- One is held more often, or less. -/
theorem pinned {i : Nat} (h : Good w a F c ord E ch) (hi : i ∈ ord) (m : Nat) (hm : Mem w' a { c with pins := upd c.pins i m }) (ho : Only (fun k => k = c.gs) w w') :
    Good w' a F { c with pins := upd c.pins i m } ord E (upd ch i { ch i with pins := m }) := by
  have hch : ∀ j, (upd ch i { ch i with pins := m } j).key = (ch j).key ∧ (upd ch i { ch i with pins := m } j).b = (ch j).b := fun j => by
    by_cases e : j = i
    · subst e; rw [upd_same]; exact ⟨rfl, rfl⟩
    · rw [upd_other _ _ e]; exact ⟨rfl, rfl⟩
  exact ⟨hm, ⟨h.link.old, h.link.next, h.link.young, h.link.prev, h.link.nodup, h.link.lt⟩, h.ents, h.most, h.n64, h.n1, h.room, fun p hp => by rw [(hch _).1]; exact h.emem p hp,
    fun j hj => by rw [(hch _).1]; exact h.eall j hj, h.enod, h.elen, h.fnod, h.flt, h.flen, h.fcap, fun j hj => by rw [(hch _).1]; exact h.key j hj,
    fun j hj => by
      by_cases e : j = i
      · subst e; simp only [upd_same]
      · rw [upd_other _ _ e]; exact (upd_other _ _ e).trans (h.pins j hj),
    fun j hj => by rw [(hch _).2]; exact h.len j hj,
    fun j hj => by rw [(hch _).2]; exact (h.data j hj).frame (fun k hk => ho.block k (h.low k hk.1) (fun hh => hk.2 (Or.inr (Or.inl hh)))),
    by rw [show sumB { c with pins := upd c.pins i m } ord = sumB c ord from sumB_congr fun _ _ => rfl]; exact h.bytes, by rw [show sumB { c with pins := upd c.pins i m } ord = sumB c ord from sumB_congr fun _ _ => rfl]; exact h.fits, h.own, fun k hk => Nat.lt_of_lt_of_le (h.low k hk) ho.size⟩
end Good
set_option maxHeartbeats 1000000 in
theorem len_any (w : World) (a : Nat) (F : Nat → Prop) (c : C) (ord : List Nat) (E : List (Nat × Nat)) (ch : Nat → Chunk) (h : Good w a F c ord E ch) :
    Calls Try.prog 22 #[.pointer (some ⟨a, 0, none⟩)] w fun e w' => e = .returned (.int .i64 ord.length) ∧ w = w' := by
  have h4 := h.mem.cat
  have hln : (Builtin.len_ #[30] 3 #[.map (some c.gm)]).run Try.prog w = .ok (.int .i64 ord.length) w := by
    have e1 : c.es.size = ord.length := by rw [h.ents.length, h.elen]
    unfold Builtin.len_
    simp [run_getMap w h.mem.map, e1, goInt]
  have K1 := Lib.hid (made_any a c.gm w h4)
  clear h
  go_enter Try.func22, Try.ntmps22
  go_wp2_with fail
  refine K1.out.mono ?_
  rintro e w2 ⟨rfl, rfl⟩
  go_wp2
  go_ret
  exact ⟨rfl, rfl⟩
set_option maxHeartbeats 1000000 in
theorem bytes_any (w : World) (a : Nat) (F : Nat → Prop) (c : C) (ord : List Nat) (E : List (Nat × Nat)) (ch : Nat → Chunk) (h : Good w a F c ord E ch) :
    Calls Try.prog 23 #[.pointer (some ⟨a, 0, none⟩)] w fun e w' => e = .returned (.int .i64 (sumB c ord)) ∧ w = w' := by
  have h4 := h.mem.cat
  have h7 := h.mem.cbytes
  rw [h.bytes] at h7
  have K1 := Lib.hid (made_any a c.gm w h4)
  clear h
  go_enter Try.func23, Try.ntmps23
  go_wp2_with fail
  refine K1.out.mono ?_
  rintro e w2 ⟨rfl, rfl⟩
  go_wp2
  go_ret
  exact ⟨rfl, rfl⟩
set_option maxHeartbeats 1000000 in
theorem mademade_any (w : World) (a : Nat) (F : Nat → Prop) (c : C) (ord : List Nat) (E : List (Nat × Nat)) (ch : Nat → Chunk) (h : Good w a F c ord E ch) :
    Calls Try.prog 16 #[.pointer (some ⟨a, 0, none⟩)] w fun e w' => e = .returned (.bool true) ∧ w = w' := by
  have K1 := Lib.hid (made_any a c.gm w h.mem.cat)
  clear h
  go_enter Try.func16, Try.ntmps16
  go_wp2_with fail
  refine K1.out.mono ?_
  rintro e w2 ⟨rfl, rfl⟩
  go_wp2
  go_ret
  exact ⟨rfl, rfl⟩
set_option maxHeartbeats 1000000 in
theorem has_no (w : World) (a : Nat) (F : Nat → Prop) (c : C) (ord : List Nat) (E : List (Nat × Nat)) (ch : Nat → Chunk) (k : Nat) (hk : k < 65536) (h : Good w a F c ord E ch) (hs : seek k E 0 = none) :
    Calls Try.prog 21 #[.pointer (some ⟨a, 0, none⟩), .agg (sumC k).toArray] w fun e w' => e = .returned (.bool false) ∧ Only (fun _ => False) w w' := by
  have kf := find_no (w.alloc (.cells (sumC k).toArray 38)) a c k E (h.mem.alloc _) hk h.ents h.elt hs
  have KF := Lib.hid kf; clear kf
  have HR := Lib.hid (box_range w (sumC k) 38)
  have HI := Lib.hid (infoSum k)
  have HA := Lib.hid (Nat.ne_of_gt h.mem.lt_a)
  have HS := Lib.hid hs; clear hs
  have H := Lib.hid h; clear h
  go_enter Try.func21, Try.ntmps21
  go_wp2_with ((with_reducible refine gate_load 38 rfl ?_); refine wpList_load_mid rfl 38 _ rfl w.heap.size 0 (by rfl) (sumC k) _ HR.out under38 rfl HI.out ?_)
  refine KF.out.mono ?_
  rintro e w2 ⟨rfl, ho2⟩
  have ho3 := ((Only.refl (fun _ => False) w).alloc (.cells (sumC k).toArray 38)).trans ho2
  clear ho2
  have hg2 := H.out.only ho3 (fun _ _ h => h)
  have HO := Lib.hid ho3; clear ho3
  clear hg2
  go_wp2
  go_ret
  exact ⟨rfl, HO.out⟩
set_option maxHeartbeats 1000000 in
theorem has_yes (w : World) (a : Nat) (F : Nat → Prop) (c : C) (ord : List Nat) (E : List (Nat × Nat)) (ch : Nat → Chunk) (k : Nat) (hk : k < 65536) (h : Good w a F c ord E ch) {j x : Nat} (hs : seek k E 0 = some (j, x)) :
    Calls Try.prog 21 #[.pointer (some ⟨a, 0, none⟩), .agg (sumC k).toArray] w fun e w' => e = .returned (.bool true) ∧ Only (fun _ => False) w w' := by
  have kf := find_yes (w.alloc (.cells (sumC k).toArray 38)) a c k E (h.mem.alloc _) hk h.ents h.elt hs
  have KF := Lib.hid kf; clear kf
  have HR := Lib.hid (box_range w (sumC k) 38)
  have HI := Lib.hid (infoSum k)
  have HA := Lib.hid (Nat.ne_of_gt h.mem.lt_a)
  have HS := Lib.hid hs; clear hs
  have H := Lib.hid h; clear h
  go_enter Try.func21, Try.ntmps21
  go_wp2_with ((with_reducible refine gate_load 38 rfl ?_); refine wpList_load_mid rfl 38 _ rfl w.heap.size 0 (by rfl) (sumC k) _ HR.out under38 rfl HI.out ?_)
  refine KF.out.mono ?_
  rintro e w2 ⟨rfl, ho2⟩
  have ho3 := ((Only.refl (fun _ => False) w).alloc (.cells (sumC k).toArray 38)).trans ho2
  clear ho2
  have hg2 := H.out.only ho3 (fun _ _ h => h)
  have HO := Lib.hid ho3; clear ho3
  clear hg2
  go_wp2
  go_ret
  exact ⟨rfl, HO.out⟩
set_option maxHeartbeats 1000000 in
theorem pin_no (w : World) (a : Nat) (F : Nat → Prop) (c : C) (ord : List Nat) (E : List (Nat × Nat)) (ch : Nat → Chunk) (k : Nat) (hk : k < 65536) (h : Good w a F c ord E ch) (hs : seek k E 0 = none) :
    Calls Try.prog 18 #[.pointer (some ⟨a, 0, none⟩), .agg (sumC k).toArray] w fun e w' => e = .returned (.int .i64 90) ∧ Only (fun _ => False) w w' := by
  have kf := find_no (w.alloc (.cells (sumC k).toArray 38)) a c k E (h.mem.alloc _) hk h.ents h.elt hs
  have KF := Lib.hid kf; clear kf
  have HR := Lib.hid (box_range w (sumC k) 38)
  have HI := Lib.hid (infoSum k)
  have HA := Lib.hid (Nat.ne_of_gt h.mem.lt_a)
  have HS := Lib.hid hs; clear hs
  have H := Lib.hid h; clear h
  go_enter Try.func18, Try.ntmps18
  go_wp2_with ((with_reducible refine gate_load 38 rfl ?_); refine wpList_load_mid rfl 38 _ rfl w.heap.size 0 (by rfl) (sumC k) _ HR.out under38 rfl HI.out ?_)
  refine KF.out.mono ?_
  rintro e w2 ⟨rfl, ho2⟩
  have ho3 := ((Only.refl (fun _ => False) w).alloc (.cells (sumC k).toArray 38)).trans ho2
  clear ho2
  have hg2 := H.out.only ho3 (fun _ _ h => h)
  have HO := Lib.hid ho3; clear ho3
  clear hg2
  go_wp2
  go_ret
  exact ⟨rfl, HO.out⟩
set_option maxHeartbeats 1000000 in
theorem unpin_no (w : World) (a : Nat) (F : Nat → Prop) (c : C) (ord : List Nat) (E : List (Nat × Nat)) (ch : Nat → Chunk) (k : Nat) (hk : k < 65536) (h : Good w a F c ord E ch) (hs : seek k E 0 = none) :
    Calls Try.prog 19 #[.pointer (some ⟨a, 0, none⟩), .agg (sumC k).toArray] w fun e w' => e = .returned (.int .i64 90) ∧ Only (fun _ => False) w w' := by
  have kf := find_no (w.alloc (.cells (sumC k).toArray 38)) a c k E (h.mem.alloc _) hk h.ents h.elt hs
  have KF := Lib.hid kf; clear kf
  have HR := Lib.hid (box_range w (sumC k) 38)
  have HI := Lib.hid (infoSum k)
  have HA := Lib.hid (Nat.ne_of_gt h.mem.lt_a)
  have HS := Lib.hid hs; clear hs
  have H := Lib.hid h; clear h
  go_enter Try.func19, Try.ntmps19
  go_wp2_with ((with_reducible refine gate_load 38 rfl ?_); refine wpList_load_mid rfl 38 _ rfl w.heap.size 0 (by rfl) (sumC k) _ HR.out under38 rfl HI.out ?_)
  refine KF.out.mono ?_
  rintro e w2 ⟨rfl, ho2⟩
  have ho3 := ((Only.refl (fun _ => False) w).alloc (.cells (sumC k).toArray 38)).trans ho2
  clear ho2
  have hg2 := H.out.only ho3 (fun _ _ h => h)
  have HO := Lib.hid ho3; clear ho3
  clear hg2
  go_wp2
  go_ret
  exact ⟨rfl, HO.out⟩
set_option maxHeartbeats 1000000 in
theorem evict_no (w : World) (a : Nat) (F : Nat → Prop) (c : C) (ord : List Nat) (E : List (Nat × Nat)) (ch : Nat → Chunk) (k : Nat) (hk : k < 65536) (h : Good w a F c ord E ch) (hs : seek k E 0 = none) :
    Calls Try.prog 20 #[.pointer (some ⟨a, 0, none⟩), .agg (sumC k).toArray] w fun e w' => e = .returned (.int .i64 90) ∧ Only (fun _ => False) w w' := by
  have kf := find_no (w.alloc (.cells (sumC k).toArray 38)) a c k E (h.mem.alloc _) hk h.ents h.elt hs
  have KF := Lib.hid kf; clear kf
  have HR := Lib.hid (box_range w (sumC k) 38)
  have HI := Lib.hid (infoSum k)
  have HA := Lib.hid (Nat.ne_of_gt h.mem.lt_a)
  have HS := Lib.hid hs; clear hs
  have H := Lib.hid h; clear h
  go_enter Try.func20, Try.ntmps20
  go_wp2_with ((with_reducible refine gate_load 38 rfl ?_); refine wpList_load_mid rfl 38 _ rfl w.heap.size 0 (by rfl) (sumC k) _ HR.out under38 rfl HI.out ?_)
  refine KF.out.mono ?_
  rintro e w2 ⟨rfl, ho2⟩
  have ho3 := ((Only.refl (fun _ => False) w).alloc (.cells (sumC k).toArray 38)).trans ho2
  clear ho2
  have hg2 := H.out.only ho3 (fun _ _ h => h)
  have HO := Lib.hid ho3; clear ho3
  clear hg2
  go_wp2
  go_ret
  exact ⟨rfl, HO.out⟩
set_option maxHeartbeats 1000000 in
theorem get_no (w : World) (a : Nat) (F : Nat → Prop) (c : C) (ord : List Nat) (E : List (Nat × Nat)) (ch : Nat → Chunk) (k : Nat) (hk : k < 65536) (h : Good w a F c ord E ch) (hs : seek k E 0 = none) :
    Calls Try.prog 13 #[.pointer (some ⟨a, 0, none⟩), .agg (sumC k).toArray] w fun e w' => e = .returned (.tuple #[.slice none 0 0, .int .i64 90]) ∧ Only (fun _ => False) w w' := by
  have kf := find_no (w.alloc (.cells (sumC k).toArray 38)) a c k E (h.mem.alloc _) hk h.ents h.elt hs
  have KF := Lib.hid kf; clear kf
  have HR := Lib.hid (box_range w (sumC k) 38)
  have HI := Lib.hid (infoSum k)
  have HA := Lib.hid (Nat.ne_of_gt h.mem.lt_a)
  have HS := Lib.hid hs; clear hs
  have H := Lib.hid h; clear h
  go_enter Try.func13, Try.ntmps13
  go_wp2_with ((with_reducible refine gate_load 38 rfl ?_); refine wpList_load_mid rfl 38 _ rfl w.heap.size 0 (by rfl) (sumC k) _ HR.out under38 rfl HI.out ?_)
  refine KF.out.mono ?_
  rintro e w2 ⟨rfl, ho2⟩
  have ho3 := ((Only.refl (fun _ => False) w).alloc (.cells (sumC k).toArray 38)).trans ho2
  clear ho2
  have hg2 := H.out.only ho3 (fun _ _ h => h)
  have HO := Lib.hid ho3; clear ho3
  clear hg2
  go_wp2
  go_ret2
  exact ⟨rfl, HO.out⟩
set_option maxHeartbeats 1000000 in
theorem pin_yes (w : World) (a : Nat) (F : Nat → Prop) (c : C) (ord : List Nat) (E : List (Nat × Nat)) (ch : Nat → Chunk) (k : Nat) (hk : k < 65536) (h : Good w a F c ord E ch) {j x : Nat} (hs : seek k E 0 = some (j, x)) (hp : (ch x).pins < 1000000000) :
    Calls Try.prog 18 #[.pointer (some ⟨a, 0, none⟩), .agg (sumC k).toArray] w fun e w' => e = .returned (.int .i64 0) ∧ Good w' a F { c with pins := upd c.pins x ((ch x).pins + 1 : Nat) } ord E (upd ch x { ch x with pins := (ch x).pins + 1 }) ∧ Only F w w' := by
  have kf := find_yes (w.alloc (.cells (sumC k).toArray 38)) a c k E (h.mem.alloc _) hk h.ents h.elt hs
  have KF := Lib.hid kf; clear kf
  have HR := Lib.hid (box_range w (sumC k) 38)
  have HI := Lib.hid (infoSum k)
  have HA := Lib.hid (Nat.ne_of_gt h.mem.lt_a)
  have HS := Lib.hid hs; clear hs
  have H := Lib.hid h; clear h
  go_enter Try.func18, Try.ntmps18
  go_wp2_with ((with_reducible refine gate_load 38 rfl ?_); refine wpList_load_mid rfl 38 _ rfl w.heap.size 0 (by rfl) (sumC k) _ HR.out under38 rfl HI.out ?_)
  refine KF.out.mono ?_
  rintro e w2 ⟨rfl, ho2⟩
  have ho3 := ((Only.refl (fun _ => False) w).alloc (.cells (sumC k).toArray 38)).trans ho2
  clear ho2
  have hg2 := H.out.only ho3 (fun _ _ h => h)
  have HO := Lib.hid ho3; clear ho3
  obtain ⟨hx, hkx⟩ := H.out.find_yes HS.out
  have hxn := hg2.mem.cpins (i := x) (hg2.link.lt x hx)
  rw [hg2.pins x hx] at hxn
  have hsl := hg2.mem.cslots
  have hfz := hg2.mem.fs (x * 36 + 33)
  have b0 : (0 : Int) ≤ x := by omega
  have b1 : (x : Int) < c.n := by have := hg2.link.lt x hx; omega
  have HG := Lib.hid hg2; clear hg2
  have HX := Lib.hid hx; clear hx hkx
  go_wp2
  go_ret
  have hm := HG.out.mem.setPins (HG.out.link.lt x HX.out) (((ch x).pins + 1 : Nat) : Int)
  have ho := (Only.refl (fun k => k = c.gs) w2).setCell (p := ⟨c.gs, x * 36 + 33, none⟩) (Or.inl rfl) (.int .i64 ((ch x).pins + 1 : Nat))
  exact ⟨rfl, HG.out.pinned HX.out _ hm ho, (HO.out.mono (fun _ _ h => h.elim)).trans (ho.mono (fun k _ hk => by subst hk; exact HG.out.own _ (Or.inr (Or.inl rfl))))⟩
set_option maxHeartbeats 1000000 in
theorem unpin_yes (w : World) (a : Nat) (F : Nat → Prop) (c : C) (ord : List Nat) (E : List (Nat × Nat)) (ch : Nat → Chunk) (k : Nat) (hk : k < 65536) (h : Good w a F c ord E ch) {j x : Nat} (hs : seek k E 0 = some (j, x)) (m : Nat) (hp : (ch x).pins = m + 1) (hp' : m < 1000000000) :
    Calls Try.prog 19 #[.pointer (some ⟨a, 0, none⟩), .agg (sumC k).toArray] w fun e w' => e = .returned (.int .i64 0) ∧ Good w' a F { c with pins := upd c.pins x (m : Nat) } ord E (upd ch x { ch x with pins := m }) ∧ Only F w w' := by
  have kf := find_yes (w.alloc (.cells (sumC k).toArray 38)) a c k E (h.mem.alloc _) hk h.ents h.elt hs
  have KF := Lib.hid kf; clear kf
  have HR := Lib.hid (box_range w (sumC k) 38)
  have HI := Lib.hid (infoSum k)
  have HA := Lib.hid (Nat.ne_of_gt h.mem.lt_a)
  have HS := Lib.hid hs; clear hs
  have H := Lib.hid h; clear h
  go_enter Try.func19, Try.ntmps19
  go_wp2_with ((with_reducible refine gate_load 38 rfl ?_); refine wpList_load_mid rfl 38 _ rfl w.heap.size 0 (by rfl) (sumC k) _ HR.out under38 rfl HI.out ?_)
  refine KF.out.mono ?_
  rintro e w2 ⟨rfl, ho2⟩
  have ho3 := ((Only.refl (fun _ => False) w).alloc (.cells (sumC k).toArray 38)).trans ho2
  clear ho2
  have hg2 := H.out.only ho3 (fun _ _ h => h)
  have HO := Lib.hid ho3; clear ho3
  obtain ⟨hx, hkx⟩ := H.out.find_yes HS.out
  have hxn := hg2.mem.cpins (i := x) (hg2.link.lt x hx)
  rw [hg2.pins x hx] at hxn
  have hsl := hg2.mem.cslots
  have hfz := hg2.mem.fs (x * 36 + 33)
  have b0 : (0 : Int) ≤ x := by omega
  have b1 : (x : Int) < c.n := by have := hg2.link.lt x hx; omega
  have HG := Lib.hid hg2; clear hg2
  have HX := Lib.hid hx; clear hx hkx
  rw [hp] at hxn
  have hne : (((m + 1 : Nat) : Int) == 0) = false := by simp; omega
  have hne2 : (((m : Nat) : Int) + 1 == 0) = false := by simp; omega
  have HP := Lib.hid hp; clear hp
  go_wp2
  go_ret
  have hm := HG.out.mem.setPins (HG.out.link.lt x HX.out) (m : Int)
  have ho := (Only.refl (fun k => k = c.gs) w2).setCell (p := ⟨c.gs, x * 36 + 33, none⟩) (Or.inl rfl) (.int .i64 (m : Int))
  exact ⟨rfl, HG.out.pinned HX.out _ hm ho, (HO.out.mono (fun _ _ h => h.elim)).trans (ho.mono (fun k _ hk => by subst hk; exact HG.out.own _ (Or.inr (Or.inl rfl))))⟩
set_option maxHeartbeats 1000000 in
theorem unpin_not (w : World) (a : Nat) (F : Nat → Prop) (c : C) (ord : List Nat) (E : List (Nat × Nat)) (ch : Nat → Chunk) (k : Nat) (hk : k < 65536) (h : Good w a F c ord E ch) {j x : Nat} (hs : seek k E 0 = some (j, x)) (hp : (ch x).pins = 0) :
    Calls Try.prog 19 #[.pointer (some ⟨a, 0, none⟩), .agg (sumC k).toArray] w fun e w' => e = .returned (.int .i64 91) ∧ Only (fun _ => False) w w' := by
  have kf := find_yes (w.alloc (.cells (sumC k).toArray 38)) a c k E (h.mem.alloc _) hk h.ents h.elt hs
  have KF := Lib.hid kf; clear kf
  have HR := Lib.hid (box_range w (sumC k) 38)
  have HI := Lib.hid (infoSum k)
  have HA := Lib.hid (Nat.ne_of_gt h.mem.lt_a)
  have HS := Lib.hid hs; clear hs
  have H := Lib.hid h; clear h
  go_enter Try.func19, Try.ntmps19
  go_wp2_with ((with_reducible refine gate_load 38 rfl ?_); refine wpList_load_mid rfl 38 _ rfl w.heap.size 0 (by rfl) (sumC k) _ HR.out under38 rfl HI.out ?_)
  refine KF.out.mono ?_
  rintro e w2 ⟨rfl, ho2⟩
  have ho3 := ((Only.refl (fun _ => False) w).alloc (.cells (sumC k).toArray 38)).trans ho2
  clear ho2
  have hg2 := H.out.only ho3 (fun _ _ h => h)
  have HO := Lib.hid ho3; clear ho3
  obtain ⟨hx, hkx⟩ := H.out.find_yes HS.out
  have hxn := hg2.mem.cpins (i := x) (hg2.link.lt x hx)
  rw [hg2.pins x hx] at hxn
  have hsl := hg2.mem.cslots
  have hfz := hg2.mem.fs (x * 36 + 33)
  have b0 : (0 : Int) ≤ x := by omega
  have b1 : (x : Int) < c.n := by have := hg2.link.lt x hx; omega
  have HG := Lib.hid hg2; clear hg2
  have HX := Lib.hid hx; clear hx hkx
  rw [hp] at hxn
  have HP := Lib.hid hp; clear hp
  go_wp2
  go_ret
  exact ⟨rfl, HO.out⟩
set_option maxHeartbeats 1000000 in
theorem evict_yes (w : World) (a : Nat) (F : Nat → Prop) (c : C) (l r : List Nat) (E : List (Nat × Nat)) (ch : Nat → Chunk) (k : Nat) (hk : k < 65536) {j x : Nat} (h : Good w a F c (l ++ x :: r) E ch) (hs : seek k E 0 = some (j, x)) :
    Calls Try.prog 20 #[.pointer (some ⟨a, 0, none⟩), .agg (sumC k).toArray] w fun e w' => e = .returned (.int .i64 0) ∧ ∃ c' E', Good w' a F c' (l ++ r) E' ch ∧ c'.n = c.n ∧ c'.room = c.room ∧ Only F w w' := by
  have kf := find_yes (w.alloc (.cells (sumC k).toArray 38)) a c k E (h.mem.alloc _) hk h.ents h.elt hs
  have KF := Lib.hid kf; clear kf
  have HR := Lib.hid (box_range w (sumC k) 38)
  have HI := Lib.hid (infoSum k)
  have HA := Lib.hid (Nat.ne_of_gt h.mem.lt_a)
  have HS := Lib.hid hs; clear hs
  have H := Lib.hid h; clear h
  go_enter Try.func20, Try.ntmps20
  go_wp2_with ((with_reducible refine gate_load 38 rfl ?_); refine wpList_load_mid rfl 38 _ rfl w.heap.size 0 (by rfl) (sumC k) _ HR.out under38 rfl HI.out ?_)
  refine KF.out.mono ?_
  rintro e w2 ⟨rfl, ho2⟩
  have ho3 := ((Only.refl (fun _ => False) w).alloc (.cells (sumC k).toArray 38)).trans ho2
  clear ho2
  have hg2 := H.out.only ho3 (fun _ _ h => h)
  have HO := Lib.hid ho3; clear ho3
  have KR := Lib.hid (remove_good w2 a F c l r x E ch hg2)
  clear hg2
  go_wp2_with fail
  refine KR.out.mono ?_
  rintro e w3 ⟨rfl, c', E', hg3, e1, e2, ho3⟩
  have HG := Lib.hid hg3; clear hg3
  have HO3 := Lib.hid ho3; clear ho3
  have E1 := Lib.hid e1; clear e1
  have E2 := Lib.hid e2; clear e2
  go_wp2
  go_ret
  exact ⟨rfl, c', E', HG.out, E1.out, E2.out, (HO.out.mono (fun _ _ h => h.elim)).trans HO3.out⟩
set_option maxHeartbeats 1000000 in
theorem get_yes (w : World) (a : Nat) (F : Nat → Prop) (c : C) (l r : List Nat) (E : List (Nat × Nat)) (ch : Nat → Chunk) (k : Nat) (hk : k < 65536) {j x : Nat} (h : Good w a F c (l ++ x :: r) E ch) (hs : seek k E 0 = some (j, x)) :
    Calls Try.prog 13 #[.pointer (some ⟨a, 0, none⟩), .agg (sumC k).toArray] w fun e w' => ∃ bo cb, e = .returned (.tuple #[.slice bo (ch x).b.length cb, .int .i64 0]) ∧
      (∀ j, j < (ch x).b.length → ∃ ad, bo = some ad ∧ w'.cell? (ad.add j) = some (.int .u8 ((ch x).b.getD j 0)) ∧ w.heap.size ≤ ad.block) ∧
      Good w' a F ((c.unlink x).link x) (l ++ r ++ [x]) E ch ∧ Only F w w' := by
  have kf := find_yes (w.alloc (.cells (sumC k).toArray 38)) a c k E (h.mem.alloc _) hk h.ents h.elt hs
  have KF := Lib.hid kf; clear kf
  have HR := Lib.hid (box_range w (sumC k) 38)
  have HI := Lib.hid (infoSum k)
  have HA := Lib.hid (Nat.ne_of_gt h.mem.lt_a)
  have HS := Lib.hid hs; clear hs
  have H := Lib.hid h; clear h
  go_enter Try.func13, Try.ntmps13
  go_wp2_with ((with_reducible refine gate_load 38 rfl ?_); refine wpList_load_mid rfl 38 _ rfl w.heap.size 0 (by rfl) (sumC k) _ HR.out under38 rfl HI.out ?_)
  refine KF.out.mono ?_
  rintro e w2 ⟨rfl, ho2⟩
  have ho3 := ((Only.refl (fun _ => False) w).alloc (.cells (sumC k).toArray 38)).trans ho2
  clear ho2
  have hg2 := H.out.only ho3 (fun _ _ h => h)
  have HO := Lib.hid ho3; clear ho3
  have KU := Lib.hid (unlink_any w2 a c x hg2.mem (hg2.link.lt x (by simp)) hg2.link.spotP hg2.link.spotN)
  have HG2 := Lib.hid hg2; clear hg2
  go_wp2_with fail
  refine KU.out.mono ?_
  rintro e w3 ⟨rfl, hm3, ho3⟩
  have hni : x ∉ l ++ r := fun hm => by
    have hnd := HG2.out.link.nodup
    rw [List.nodup_append] at hnd
    rcases List.mem_append.1 hm with hm | hm
    · exact hnd.2.2 x hm x (by simp) rfl
    · exact (List.nodup_cons.1 hnd.2.1).1 hm
  have KL := Lib.hid (link_any w3 a (c.unlink x) x hm3 (HG2.out.link.lt x (by simp)) HG2.out.link.unlink.spotY)
  have HO3 := Lib.hid ho3; clear ho3 hm3
  go_wp2_with fail
  refine KL.out.mono ?_
  rintro e w4 ⟨rfl, hm4, ho4⟩
  have hg4 := HG2.out.touched hm4 (HO3.out.trans ho4)
  have ho5 : Only F w w4 := (HO.out.mono (fun _ _ h => h.elim)).trans ((HO3.out.trans ho4).mono (fun k _ hk => by rcases hk with rfl | rfl; exact HG2.out.own _ (Or.inl rfl); exact HG2.out.own _ (Or.inr (Or.inl rfl))))
  have hsl : w4.cell? ⟨a, 0, none⟩ = some (.slice (some ⟨c.gs, 0, none⟩) c.n c.caps) := hg4.mem.cslots
  have hdt : w4.cell? ⟨c.gs, x * 36 + 32, none⟩ = some (.slice (c.da x) (ch x).b.length (c.dc x)) := by rw [← HG2.out.len x (by simp)]; exact hg4.mem.cdat (i := x) (HG2.out.link.lt x (by simp))
  have KC := Lib.hid (clone_any (c.da x) (ch x).b (c.dc x) w4 (by have h1 := HG2.out.fits; have h2 := HG2.out.room.2; have h3 := HG2.out.len x (by simp); rw [sumB_app] at h1; simp only [sumB] at h1; omega)
    (fun j hj => by obtain ⟨ad, h1, h2, _⟩ := hg4.data x (by simp) j hj; exact ⟨ad, h1, h2⟩))
  have b0 : (0 : Int) ≤ x := by omega
  have b1 : (x : Int) < c.n := by have := HG2.out.link.lt x (by simp); omega
  have HG4 := Lib.hid hg4; clear hg4 hm4 ho4 hni
  have HO5 := Lib.hid ho5; clear ho5
  go_wp2_with fail
  refine KC.out.mono ?_
  rintro e w5 ⟨bo, cb, rfl, hd5, ho6⟩
  have HD5 := Lib.hid hd5; clear hd5
  have HO6 := Lib.hid ho6; clear ho6
  go_wp2
  go_ret2
  exact ⟨bo, cb, rfl, fun j hj => by obtain ⟨ad, h1, h2, h3⟩ := HD5.out j hj; exact ⟨ad, h1, h2, Nat.le_trans HO5.out.size h3⟩, HG4.out.only HO6.out (fun _ _ h => h), HO5.out.trans (HO6.out.mono (fun _ _ h => h.elim))⟩
end Go.Proofs.Ytafeiankpckijaa
