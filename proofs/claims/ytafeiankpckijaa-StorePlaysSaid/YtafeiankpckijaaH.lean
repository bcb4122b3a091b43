/- A store that is as it should be: its memory, the order of use, the map, the free slots, each chunk's bytes; what taking one out does. -/
import Derived.Test.YtafeiankpckijaaG
namespace Go.Proofs.Ytafeiankpckijaa
open Go.RowKit
set_option linter.unusedSimpArgs false
set_option linter.unusedVariables false
structure Chunk where
  key : Nat
  b : List Int
  pins : Nat
/-- The bytes lie at that address, in blocks of F. -/
def DataAt (w : World) (F : Nat → Prop) (ao : Option Addr) (b : List Int) : Prop :=
  ∀ j, j < b.length → ∃ ad, ao = some ad ∧ w.cell? (ad.add j) = some (.int .u8 (b.getD j 0)) ∧ F ad.block
theorem add_block (ad : Addr) (j : Nat) : (ad.add j).block = ad.block := by unfold Addr.add; split <;> rfl
theorem DataAt.frame {w w' : World} {F : Nat → Prop} {ao : Option Addr} {b : List Int} (h : DataAt w F ao b) (hF : ∀ k, F k → w'.heap[k]? = w.heap[k]?) : DataAt w' F ao b := fun j hj => by
  obtain ⟨ad, h1, h2, h3⟩ := h j hj
  have e : w'.heap[(ad.add j).block]? = w.heap[(ad.add j).block]? := by rw [add_block]; exact hF _ h3
  exact ⟨ad, h1, (World.cell?_of_block (w := w) e).trans h2, h3⟩
theorem DataAt.mono {w : World} {F G : Nat → Prop} {ao : Option Addr} {b : List Int} (h : DataAt w F ao b) (hF : ∀ k, F k → G k) : DataAt w G ao b := fun j hj => by
  obtain ⟨ad, h1, h2, h3⟩ := h j hj
  exact ⟨ad, h1, h2, hF _ h3⟩
/-- One of the store's own four blocks. -/
def Four (a : Nat) (c : C) : Nat → Prop := fun k => k = a ∨ k = c.gs ∨ k = c.gf ∨ k = c.gm
structure Good (w : World) (a : Nat) (F : Nat → Prop) (c : C) (ord : List Nat) (E : List (Nat × Nat)) (ch : Nat → Chunk) : Prop where
  mem : Mem w a c
  link : Linked c ord
  ents : Ents c.es.toList E
  most : c.most = c.n
  n64 : c.n ≤ 64
  n1 : 1 ≤ c.n
  room : 1 ≤ c.room ∧ c.room ≤ 8192
  emem : ∀ p ∈ E, p.2 ∈ ord ∧ (ch p.2).key = p.1
  eall : ∀ i ∈ ord, ((ch i).key, i) ∈ E
  enod : (E.map (·.1)).Nodup
  elen : E.length = ord.length
  fnod : ∀ i j, i < j → j < c.nf → c.free i ≠ c.free j
  flt : ∀ i, i < c.nf → c.free i < c.n ∧ c.free i ∉ ord
  flen : c.nf + ord.length = c.n
  fcap : c.n ≤ c.capf
  key : ∀ i ∈ ord, c.key i = sumC (ch i).key ∧ (ch i).key < 65536
  pins : ∀ i ∈ ord, c.pins i = (ch i).pins
  len : ∀ i ∈ ord, c.dl i = (ch i).b.length
  data : ∀ i ∈ ord, DataAt w (fun k => F k ∧ ¬ Four a c k) (c.da i) (ch i).b
  bytes : c.bytes = sumB c ord
  fits : sumB c ord ≤ c.room
  own : ∀ k, Four a c k → F k
  low : ∀ k, F k → k < w.heap.size
theorem seek_some {k : Nat} : ∀ {E : List (Nat × Nat)} {s j x : Nat}, seek k E s = some (j, x) → s ≤ j ∧ E[j - s]? = some (k, x)
  | [], _, _, _, h => by simp [seek] at h
  | p :: E, s, j, x, h => by
    unfold seek at h
    split at h
    · rename_i e; simp at h; obtain ⟨rfl, rfl⟩ := h; subst e; simp
    · obtain ⟨h1, h2⟩ := seek_some h
      refine ⟨by omega, ?_⟩
      rw [show j - s = (j - (s + 1)) + 1 by omega]; simpa using h2
theorem seek_none {k : Nat} : ∀ {E : List (Nat × Nat)} {s : Nat}, seek k E s = none → ∀ p ∈ E, p.1 ≠ k
  | [], _, _, p, hp => by cases hp
  | q :: E, s, h, p, hp => by
    unfold seek at h
    split at h
    · cases h
    · rename_i e
      rcases List.mem_cons.1 hp with rfl | hp
      · exact fun h' => e h'.symm
      · exact seek_none h p hp
namespace Good
variable {w w' : World} {a : Nat} {F G : Nat → Prop} {c : C} {ord l r : List Nat} {E : List (Nat × Nat)} {ch : Nat → Chunk}
theorem elt (h : Good w a F c ord E ch) : ∀ p ∈ E, p.1 < 65536 := fun p hp => by
  obtain ⟨h1, h2⟩ := h.emem p hp; rw [← h2]; exact (h.key _ h1).2
theorem find_yes (h : Good w a F c ord E ch) {k j x : Nat} (hs : seek k E 0 = some (j, x)) : x ∈ ord ∧ (ch x).key = k := by
  obtain ⟨_, h2⟩ := seek_some hs
  have := h.emem _ (List.mem_of_getElem? h2)
  exact this
theorem find_no (h : Good w a F c ord E ch) {k : Nat} (hs : seek k E 0 = none) : ∀ i ∈ ord, (ch i).key ≠ k := fun i hi => seek_none hs _ (h.eall i hi)
theorem key_inj (h : Good w a F c ord E ch) {i j : Nat} (hi : i ∈ ord) (hj : j ∈ ord) (e : (ch i).key = (ch j).key) : i = j := by
  have h1 := h.eall i hi
  have h2 := h.eall j hj
  rw [e] at h1
  obtain ⟨x, hx, e1⟩ := List.mem_iff_getElem.1 h1
  obtain ⟨y, hy, e2⟩ := List.mem_iff_getElem.1 h2
  have : x = y := by
    have hn := h.enod
    rcases Nat.lt_trichotomy x y with hlt | rfl | hlt
    · have := (List.pairwise_iff_getElem.1 hn) x y (by simpa using hx) (by simpa using hy) hlt
      simp [e1, e2] at this
    · rfl
    · have := (List.pairwise_iff_getElem.1 hn) y x (by simpa using hy) (by simpa using hx) hlt
      simp [e1, e2] at this
  subst this
  rw [e1] at e2; exact (Prod.mk.inj e2).2
theorem seek_of (h : Good w a F c ord E ch) {i : Nat} (hi : i ∈ ord) : ∃ j, seek (ch i).key E 0 = some (j, i) := by
  cases hs : seek (ch i).key E 0 with
  | none => exact absurd rfl (h.find_no hs i hi)
  | some q =>
    obtain ⟨j, x⟩ := q
    obtain ⟨h1, h2⟩ := h.find_yes hs
    obtain rfl := h.key_inj h1 hi h2
    exact ⟨j, rfl⟩
/-- It stands where none of its blocks has turned. -/
theorem frame (h : Good w a F c ord E ch) (hF : ∀ k, F k → w'.heap[k]? = w.heap[k]?) (hs : w.heap.size ≤ w'.heap.size) : Good w' a F c ord E ch :=
  { h with mem := h.mem.frame (fun k hk => hF k (h.own k hk)), data := fun i hi => (h.data i hi).frame (fun k hk => hF k hk.1), low := fun k hk => Nat.lt_of_lt_of_le (h.low k hk) hs }
theorem only (h : Good w a F c ord E ch) (ho : Only G w w') (hd : ∀ k, F k → ¬ G k) : Good w' a F c ord E ch :=
  h.frame (fun k hk => ho.block k (h.low k hk) (hd k hk)) ho.size
theorem wide (h : Good w a F c ord E ch) (hF : ∀ k, F k → G k) (hl : ∀ k, G k → k < w.heap.size) : Good w a G c ord E ch :=
  { h with data := fun i hi => (h.data i hi).mono (fun k hk => ⟨hF k hk.1, hk.2⟩), own := fun k hk => hF k (h.own k hk), low := hl }
theorem sumB_congr {c c' : C} : ∀ {l : List Nat}, (∀ i ∈ l, c'.dl i = c.dl i) → sumB c' l = sumB c l
  | [], _ => rfl
  | i :: l, h => by simp only [sumB]; rw [h i (by simp), sumB_congr (fun j hj => h j (by simp [hj]))]
/-- One is taken out. -/
theorem removed {i j : Nat} (h : Good w a F c (l ++ i :: r) E ch) (hs : seek (ch i).key E 0 = some (j, i)) (hm : Mem w' a (c.removed i j)) (ho : Only (Four a c) w w') :
    Good w' a F (c.removed i j) (l ++ r) (E.eraseIdx j) ch := by
  have hnd := h.link.nodup
  rw [List.nodup_append] at hnd
  obtain ⟨d1, d2, d3⟩ := hnd
  rw [List.nodup_cons] at d2
  have hsub : ∀ k ∈ l ++ r, k ∈ l ++ i :: r ∧ k ≠ i := fun k hk => by
    rcases List.mem_append.1 hk with hk | hk
    · exact ⟨by simp [hk], fun e => d3 k hk i (by simp) e⟩
    · exact ⟨by simp [hk], fun e => d2.1 (e ▸ hk)⟩
  have hul := h.link.unlink
  have hlink : Linked (c.removed i j) (l ++ r) := by
    refine ⟨hul.old, Chain.congr (fun k hk => ?_) hul.next, hul.young, Chain.congr (fun k hk => ?_) hul.prev, hul.nodup, hul.lt⟩
    · exact upd_other _ _ (hsub k hk).2
    · exact upd_other _ _ (hsub k (by simpa [or_comm] using hk)).2
  obtain ⟨-, hj⟩ := seek_some hs
  simp only [Nat.sub_zero] at hj
  have hjlt : j < E.length := (List.getElem?_eq_some_iff.1 hj).1
  have hje : E[j] = ((ch i).key, i) := (List.getElem?_eq_some_iff.1 hj).2
  have hpw := List.pairwise_iff_getElem.1 h.enod
  have hsum : sumB (c.removed i j) (l ++ r) = sumB c (l ++ r) := sumB_congr fun k hk => upd_other _ _ (hsub k hk).2
  have hsum0 : sumB c (l ++ i :: r) = c.dl i + sumB c (l ++ r) := by rw [sumB_app, sumB_app]; simp only [sumB]; omega
  have hflen := h.flen
  simp only [List.length_append, List.length_cons] at hflen
  refine ⟨hm, hlink, h.ents.erase j, h.most, h.n64, h.n1, h.room, ?_, ?_, ?_, ?_, ?_, ?_, ?_, h.fcap, ?_, ?_, ?_, ?_, ?_, ?_, h.own, fun k hk => Nat.lt_of_lt_of_le (h.low k hk) ho.size⟩
  · intro p hp
    obtain ⟨x, hx, hp1⟩ := List.mem_eraseIdx_iff_getElem.1 hp
    obtain ⟨hxl, hxe⟩ := hp1
    have hpE : p ∈ E := by rw [← hxe]; exact List.getElem_mem _
    obtain ⟨h1, h2⟩ := h.emem p hpE
    refine ⟨?_, h2⟩
    have hne : p.2 ≠ i := by
      intro e
      have ek : p.1 = (ch i).key := by rw [← h2, e]
      rcases Nat.lt_trichotomy x j with hlt | rfl | hlt
      · exact hpw x j (by simpa using hx) (by simpa using hjlt) hlt (by simp [hxe, hje, ek])
      · exact hxl rfl
      · exact hpw j x (by simpa using hjlt) (by simpa using hx) hlt (by simp [hxe, hje, ek])
    rcases List.mem_append.1 h1 with h1 | h1
    · simp [h1]
    · rcases List.mem_cons.1 h1 with h1 | h1
      · exact absurd h1 hne
      · simp [h1]
  · intro k hk
    obtain ⟨x, hx, hxe⟩ := List.mem_iff_getElem.1 (h.eall k (hsub k hk).1)
    refine List.mem_eraseIdx_iff_getElem.2 ⟨x, hx, ?_, hxe⟩
    rintro rfl
    rw [hje] at hxe
    exact (hsub k hk).2 (Prod.mk.inj hxe).2.symm
  · rw [map_eraseIdx']; exact h.enod.eraseIdx _
  · rw [List.length_eraseIdx, if_pos hjlt, h.elen]; simp
  · intro x y hxy hy
    simp only [C.removed] at hy ⊢
    by_cases e : y = c.nf
    · subst e
      rw [upd_same, upd_other _ _ (by omega)]
      exact fun e => (h.flt x hxy).2 (by rw [e]; simp)
    · rw [upd_other _ _ e, upd_other _ _ (by omega)]; exact h.fnod x y hxy (by omega)
  · intro x hx
    simp only [C.removed] at hx ⊢
    by_cases e : x = c.nf
    · subst e; rw [upd_same]; exact ⟨h.link.lt i (by simp), fun hi => (hsub i hi).2 rfl⟩
    · rw [upd_other _ _ e]
      obtain ⟨h1, h2⟩ := h.flt x (by omega)
      exact ⟨h1, fun hi => h2 (hsub _ hi).1⟩
  · simp only [C.removed, List.length_append, C.cleared, C.unlink]; omega
  · intro k hk
    obtain ⟨h1, h2⟩ := h.key k (hsub k hk).1
    exact ⟨(upd_other _ _ (hsub k hk).2).trans h1, h2⟩
  · intro k hk; exact (upd_other _ _ (hsub k hk).2).trans (h.pins k (hsub k hk).1)
  · intro k hk; exact (upd_other _ _ (hsub k hk).2).trans (h.len k (hsub k hk).1)
  · intro k hk
    have e : (c.removed i j).da k = c.da k := upd_other _ _ (hsub k hk).2
    rw [e]
    exact (h.data k (hsub k hk).1).frame (fun x hx => ho.block x (h.low x hx.1) hx.2)
  · rw [hsum]
    have := h.bytes
    show c.bytes - c.dl i = _
    rw [this, hsum0]; omega
  · rw [hsum]
    have := h.fits
    rw [hsum0] at this
    show (sumB c (l ++ r) : Int) ≤ c.room
    omega
end Good
theorem remove_good (w : World) (a : Nat) (F : Nat → Prop) (c : C) (l r : List Nat) (i : Nat) (E : List (Nat × Nat)) (ch : Nat → Chunk) (h : Good w a F c (l ++ i :: r) E ch) :
    Calls Try.prog 46 #[.pointer (some ⟨a, 0, none⟩), .int .i64 i] w fun e w' => e = .returned (.tuple #[]) ∧ ∃ c' E', Good w' a F c' (l ++ r) E' ch ∧ c'.n = c.n ∧ c'.room = c.room ∧ Only F w w' := by
  obtain ⟨j, hs⟩ := h.seek_of (i := i) (by simp)
  have hfl := h.flen
  have hfc := h.fcap
  have hb := h.bytes
  have hf := h.fits
  have hr := h.room.2
  have hsum : sumB c (l ++ i :: r) = c.dl i + sumB c (l ++ r) := by rw [sumB_app, sumB_app]; simp only [sumB]; omega
  simp only [List.length_append, List.length_cons] at hfl
  refine (remove_any w a c l r i (ch i).key j E h.mem h.link (h.key i (by simp)).1 (h.key i (by simp)).2 h.ents h.elt hs (by omega) (by rw [hb, hsum]; omega) (by omega)).mono ?_
  rintro e w' ⟨rfl, hm, ho⟩
  exact ⟨rfl, _, _, h.removed hs hm ho, rfl, rfl, ho.mono fun k _ hk => h.own k hk⟩
end Go.Proofs.Ytafeiankpckijaa
