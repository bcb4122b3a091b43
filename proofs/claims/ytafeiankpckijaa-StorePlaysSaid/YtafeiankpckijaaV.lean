/- What a store is, as a list of chunks; what each call makes of the list. -/
import Derived.Test.YtafeiankpckijaaU
import Derived.Test.YtafeiankpckijaaR
namespace Go.Proofs.Ytafeiankpckijaa
open Go.RowKit
set_option linter.unusedSimpArgs false
set_option linter.unusedVariables false
def oth (k : Nat) (L : List Chunk) : List Chunk := L.filter fun x => x.key != k
def own (k : Nat) (L : List Chunk) : List Chunk := L.filter fun x => x.key == k
def hasL (k : Nat) (L : List Chunk) : Bool := L.any fun x => x.key == k
def touch (k : Nat) (L : List Chunk) : List Chunk := oth k L ++ own k L
def pinL (f : Nat → Nat) (k : Nat) (L : List Chunk) : List Chunk := L.map fun x => if x.key = k then { x with pins := f x.pins } else x
def pinsOf (k : Nat) (L : List Chunk) : Nat := ((own k L).map (·.pins)).headD 0
def dataOf (k : Nat) (L : List Chunk) : List Int := ((own k L).map (·.b)).headD []
theorem split_oth {k : Nat} {A B : List Chunk} {X : Chunk} (hX : X.key = k) (hA : ∀ y ∈ A, y.key ≠ k) (hB : ∀ y ∈ B, y.key ≠ k) : oth k (A ++ X :: B) = A ++ B := by
  unfold oth
  rw [List.filter_append, List.filter_cons, if_neg (by simp [hX]), List.filter_eq_self.2 (by simpa using hA), List.filter_eq_self.2 (by simpa using hB)]
theorem split_own {k : Nat} {A B : List Chunk} {X : Chunk} (hX : X.key = k) (hA : ∀ y ∈ A, y.key ≠ k) (hB : ∀ y ∈ B, y.key ≠ k) : own k (A ++ X :: B) = [X] := by
  unfold own
  rw [List.filter_append, List.filter_cons, if_pos (by simp [hX]), List.filter_eq_nil_iff.2 (by simpa using hA), List.filter_eq_nil_iff.2 (by simpa using hB)]; rfl
theorem has_split {k : Nat} {A B : List Chunk} {X : Chunk} (hX : X.key = k) : hasL k (A ++ X :: B) = true := by simp [hasL, hX]
theorem has_none {k : Nat} {L : List Chunk} (h : ∀ y ∈ L, y.key ≠ k) : hasL k L = false := by simpa [hasL] using h
/-- A store in memory: so many chunks, so many bytes; what is in it, the one that rested longest first; no one is held oftener than p times. -/
structure Rep (w : World) (a : Nat) (F : Nat → Prop) (most room p : Nat) (L : List Chunk) : Prop where
  good : ∃ c ord E ch, Good w a F c ord E ch ∧ L = ord.map ch ∧ c.n = most ∧ c.room = (room : Int)
  pins : ∀ x ∈ L, x.pins ≤ p
/-- Blocks more, all of them new. -/
structure Grew (w : World) (F F' : Nat → Prop) : Prop where
  sub : ∀ y, F y → F' y
  new : ∀ y, F' y → F y ∨ w.heap.size ≤ y
theorem Grew.refl (w : World) (F : Nat → Prop) : Grew w F F := ⟨fun _ h => h, fun _ h => Or.inl h⟩
theorem Grew.trans {w w' : World} {F F' F'' : Nat → Prop} (h : Grew w F F') (h' : Grew w' F' F'') (hs : w.heap.size ≤ w'.heap.size) : Grew w F F'' :=
  ⟨fun y hy => h'.sub y (h.sub y hy), fun y hy => by rcases h'.new y hy with hy | hy; exact h.new y hy; right; omega⟩
/-- A call has made this of the store. -/
structure Then (w : World) (a : Nat) (F : Nat → Prop) (most room p : Nat) (L : List Chunk) (w' : World) : Prop where
  rep : ∃ F', Rep w' a F' most room p L ∧ Grew w F F'
  only : Only F w w'
namespace Rep
variable {w w' : World} {a most room p : Nat} {F : Nat → Prop} {L : List Chunk}
theorem frame (h : Rep w a F most room p L) (ho : Only (fun _ => False) w w') : Rep w' a F most room p L := by
  obtain ⟨c, ord, E, ch, hg, h1, h2, h3⟩ := h.good
  exact ⟨⟨c, ord, E, ch, hg.only ho (fun _ _ h => h), h1, h2, h3⟩, h.pins⟩
theorem apart {G : Nat → Prop} (h : Rep w a F most room p L) (ho : Only G w w') (hd : ∀ k, F k → ¬ G k) : Rep w' a F most room p L := by
  obtain ⟨c, ord, E, ch, hg, h1, h2, h3⟩ := h.good
  exact ⟨⟨c, ord, E, ch, hg.only ho hd, h1, h2, h3⟩, h.pins⟩
theorem low (h : Rep w a F most room p L) : ∀ k, F k → k < w.heap.size := by
  obtain ⟨c, ord, E, ch, hg, _⟩ := h.good; exact hg.low
theorem more (h : Rep w a F most room p L) {q : Nat} (hq : p ≤ q) : Rep w a F most room q L := ⟨h.good, fun x hx => Nat.le_trans (h.pins x hx) hq⟩
theorem mk' {c : C} {ord : List Nat} {E : List (Nat × Nat)} {ch : Nat → Chunk} (hg : Good w a F c ord E ch) (hL : L = ord.map ch) (hn : c.n = most) (hr : c.room = (room : Int)) (hp : ∀ x ∈ L, x.pins ≤ p) : Rep w a F most room p L := ⟨⟨c, ord, E, ch, hg, hL, hn, hr⟩, hp⟩
/-- A digest is there, once; or it is not. -/
theorem cases (h : Rep w a F most room p L) (k : Nat) :
    (∃ c l x r E ch j, Good w a F c (l ++ x :: r) E ch ∧ seek k E 0 = some (j, x) ∧ L = l.map ch ++ ch x :: r.map ch ∧ c.n = most ∧ c.room = (room : Int) ∧ (ch x).key = k ∧ (∀ y ∈ l.map ch, y.key ≠ k) ∧ (∀ y ∈ r.map ch, y.key ≠ k)) ∨
    (∃ c ord E ch, Good w a F c ord E ch ∧ seek k E 0 = none ∧ L = ord.map ch ∧ c.n = most ∧ c.room = (room : Int) ∧ ∀ y ∈ L, y.key ≠ k) := by
  obtain ⟨c, ord, E, ch, hg, rfl, h2, h3⟩ := h.good
  cases hs : seek k E 0 with
  | none => right; exact ⟨c, ord, E, ch, hg, hs, rfl, h2, h3, fun y hy => by obtain ⟨i, hi, rfl⟩ := List.mem_map.1 hy; exact hg.find_no hs i hi⟩
  | some q =>
    obtain ⟨j, x⟩ := q
    obtain ⟨hx, hk⟩ := hg.find_yes hs
    obtain ⟨l, r, rfl⟩ := List.append_of_mem hx
    left
    have hnd := hg.link.nodup
    rw [List.nodup_append] at hnd
    obtain ⟨d1, d2, d3⟩ := hnd
    rw [List.nodup_cons] at d2
    refine ⟨c, l, x, r, E, ch, j, hg, hs, by simp, h2, h3, hk, ?_, ?_⟩
    · intro y hy e; obtain ⟨i, hi, rfl⟩ := List.mem_map.1 hy
      have := hg.key_inj (i := i) (j := x) (by simp [hi]) (by simp) (by rw [e, hk])
      exact d3 i hi x (by simp) this
    · intro y hy e; obtain ⟨i, hi, rfl⟩ := List.mem_map.1 hy
      have := hg.key_inj (i := i) (j := x) (by simp [hi]) (by simp) (by rw [e, hk])
      exact d2.1 (this ▸ hi)
theorem nodup (h : Rep w a F most room p L) : (L.map (·.key)).Nodup := by
  obtain ⟨c, ord, E, ch, hg, rfl, h2, h3⟩ := h.good
  rw [List.map_map, List.nodup_iff_pairwise_ne, List.pairwise_map]
  refine List.Pairwise.imp_of_mem ?_ (List.nodup_iff_pairwise_ne.1 hg.link.nodup)
  intro i j hi hj hne e
  exact hne (hg.key_inj hi hj e)
theorem keys (h : Rep w a F most room p L) : ∀ x ∈ L, x.key < 65536 := by
  obtain ⟨c, ord, E, ch, hg, rfl, h2, h3⟩ := h.good
  intro x hx; obtain ⟨i, hi, rfl⟩ := List.mem_map.1 hx; exact (hg.key i hi).2
theorem bounds (h : Rep w a F most room p L) : L.length ≤ most ∧ sB L ≤ room ∧ 1 ≤ most ∧ most ≤ 64 ∧ 1 ≤ room ∧ room ≤ 8192 := by
  obtain ⟨c, ord, E, ch, hg, rfl, rfl, h3⟩ := h.good
  have h4 := hg.flen
  have h5 := hg.fits
  have h6 := hg.n64
  have h7 := hg.n1
  have h8 := hg.room
  rw [sumB_eq hg.len, h3] at h5
  rw [h3] at h8
  exact ⟨by simp; omega, by omega, h7, h6, by omega, by omega⟩
end Rep
def Sum_ (k : Nat) : Value := .agg (sumC k).toArray
def Ptr (a : Nat) : Value := .pointer (some ⟨a, 0, none⟩)
section
variable {w : World} {a most room p : Nat} {F : Nat → Prop} {L : List Chunk} {k : Nat}
theorem rep_len (h : Rep w a F most room p L) : Calls Try.prog 22 #[Ptr a] w fun e w' => e = .returned (.int .i64 L.length) ∧ w' = w := by
  obtain ⟨c, ord, E, ch, hg, rfl, _⟩ := h.good
  refine (len_any w a F c ord E ch hg).mono ?_
  rintro e w' ⟨rfl, rfl⟩; simp
theorem rep_bytes (h : Rep w a F most room p L) : Calls Try.prog 23 #[Ptr a] w fun e w' => e = .returned (.int .i64 (sB L)) ∧ w' = w := by
  obtain ⟨c, ord, E, ch, hg, rfl, _⟩ := h.good
  refine (bytes_any w a F c ord E ch hg).mono ?_
  rintro e w' ⟨rfl, rfl⟩; exact ⟨by rw [sumB_eq hg.len], rfl⟩
theorem rep_made (h : Rep w a F most room p L) : Calls Try.prog 16 #[Ptr a] w fun e w' => e = .returned (.bool true) ∧ w' = w := by
  obtain ⟨c, ord, E, ch, hg, rfl, _⟩ := h.good
  refine (mademade_any w a F c ord E ch hg).mono ?_
  rintro e w' ⟨rfl, rfl⟩; exact ⟨rfl, rfl⟩
theorem rep_list (h : Rep w a F most room p L) : Calls Try.prog 24 #[Ptr a] w fun e w' => ∃ v, e = .returned v ∧ w'.ownsRow w.heap.size 38 32 v L.length (L.flatMap fun x => sumC x.key) ∧ Only (fun _ => False) w w' := by
  obtain ⟨c, ord, E, ch, hg, rfl, _⟩ := h.good
  refine (list_any w a F c ord E ch hg).mono ?_
  rintro e w' ⟨v, rfl, h1, h2⟩; exact ⟨v, rfl, by simpa [List.flatMap_map] using h1, h2⟩
theorem rep_wipe (h : Rep w a F most room p L) : Calls Try.prog 15 #[Ptr a] w fun e w' => e = .returned (.tuple #[]) ∧ Then w a F most room 0 [] w' := by
  obtain ⟨c, ord, E, ch, hg, rfl, rfl, h3⟩ := h.good
  refine (wipe_any w a F c ord E ch hg).mono ?_
  rintro e w' ⟨rfl, c', E', h1, h2, h4, h5⟩
  exact ⟨rfl, ⟨F, Rep.mk' h1 rfl h2 (h4.trans h3) (by simp), Grew.refl _ _⟩, h5⟩
theorem rep_has (h : Rep w a F most room p L) (hk : k < 65536) : Calls Try.prog 21 #[Ptr a, Sum_ k] w fun e w' => e = .returned (.bool (hasL k L)) ∧ Only (fun _ => False) w w' := by
  rcases h.cases k with ⟨c, l, x, r, E, ch, j, hg, hs, rfl, h2, h3, h4, h5, h6⟩ | ⟨c, ord, E, ch, hg, hs, rfl, h2, h3, h4⟩
  · refine (has_yes w a F c _ E ch k hk hg hs).mono ?_
    rintro e w' ⟨rfl, ho⟩; exact ⟨by rw [has_split h4], ho⟩
  · refine (has_no w a F c _ E ch k hk hg hs).mono ?_
    rintro e w' ⟨rfl, ho⟩; exact ⟨by rw [has_none h4], ho⟩
def getE (k : Nat) (L : List Chunk) : Int := if hasL k L then 0 else 90
theorem rep_get (h : Rep w a F most room p L) (hk : k < 65536) : Calls Try.prog 13 #[Ptr a, Sum_ k] w fun e w' => ∃ bo cb, e = .returned (.tuple #[.slice bo (dataOf k L).length cb, .int .i64 (getE k L)]) ∧
      DataAt w' (fun y => w.heap.size ≤ y) bo (dataOf k L) ∧ Then w a F most room p (touch k L) w' := by
  rcases h.cases k with ⟨c, l, x, r, E, ch, j, hg, hs, rfl, h2, h3, h4, h5, h6⟩ | ⟨c, ord, E, ch, hg, hs, rfl, h2, h3, h4⟩
  · have e1 : dataOf k (l.map ch ++ ch x :: r.map ch) = (ch x).b := by unfold dataOf; rw [split_own h4 h5 h6]; rfl
    have e2 : touch k (l.map ch ++ ch x :: r.map ch) = (l ++ r ++ [x]).map ch := by unfold touch; rw [split_oth h4 h5 h6, split_own h4 h5 h6]; simp
    refine (get_yes w a F c l r E ch k hk hg hs).mono ?_
    rintro e w' ⟨bo, cb, rfl, h7, h8, h9⟩
    refine ⟨bo, cb, by rw [e1, getE, has_split h4]; rfl, by rw [e1]; exact fun j hj => h7 j hj, ⟨F, ?_, Grew.refl _ _⟩, h9⟩
    rw [e2]
    refine Rep.mk' h8 rfl h2 h3 ?_
    intro y hy; exact h.pins y (by simp at hy ⊢; rcases hy with hy | hy | hy <;> simp [hy])
  · have e1 : own k (ord.map ch) = [] := by unfold own; rw [List.filter_eq_nil_iff.2 (by simpa using h4)]
    have e2 : touch k (ord.map ch) = ord.map ch := by unfold touch; rw [e1]; unfold oth; rw [List.filter_eq_self.2 (by simpa using h4)]; simp
    refine (get_no w a F c _ E ch k hk hg hs).mono ?_
    rintro e w' ⟨rfl, ho⟩
    have e3 : dataOf k (ord.map ch) = [] := by unfold dataOf; rw [e1]; rfl
    refine ⟨none, 0, by rw [e3, getE, has_none h4]; rfl, by rw [e3]; exact fun j hj => by simp at hj, ⟨F, ?_, Grew.refl _ _⟩, ho.mono (fun _ _ h => h.elim)⟩
    rw [e2]; exact h.frame ho
theorem rep_pin (h : Rep w a F most room p L) (hk : k < 65536) (hp : p < 1000000000) : Calls Try.prog 18 #[Ptr a, Sum_ k] w fun e w' => e = .returned (.int .i64 (getE k L)) ∧ Then w a F most room (p + 1) (pinL (· + 1) k L) w' := by
  rcases h.cases k with ⟨c, l, x, r, E, ch, j, hg, hs, rfl, h2, h3, h4, h5, h6⟩ | ⟨c, ord, E, ch, hg, hs, rfl, h2, h3, h4⟩
  · refine (pin_yes w a F c _ E ch k hk hg hs (by have := h.pins (ch x) (by simp); omega)).mono ?_
    rintro e w' ⟨rfl, h8, h9⟩
    refine ⟨by rw [getE, has_split h4]; rfl, ⟨F, ?_, Grew.refl _ _⟩, h9⟩
    refine Rep.mk' h8 ?_ h2 h3 ?_
    · unfold pinL
      rw [show l.map ch ++ ch x :: r.map ch = (l ++ x :: r).map ch by simp, List.map_map]
      refine List.map_congr_left fun i hi => ?_
      show (if (ch i).key = k then _ else _) = _
      by_cases e : i = x
      · subst e; rw [if_pos h4, upd_same]
      · rw [upd_other _ _ e, if_neg]
        intro e'; exact e (hg.key_inj hi (by simp) (by rw [e', h4]))
    · intro y hy; obtain ⟨z, hz, rfl⟩ := List.mem_map.1 hy
      have := h.pins z hz
      split <;> simp <;> omega
  · refine (pin_no w a F c _ E ch k hk hg hs).mono ?_
    rintro e w' ⟨rfl, ho⟩
    refine ⟨by rw [getE, has_none h4]; rfl, ⟨F, ?_, Grew.refl _ _⟩, ho.mono (fun _ _ h => h.elim)⟩
    have e2 : pinL (· + 1) k (ord.map ch) = ord.map ch := by
      unfold pinL; conv => rhs; rw [← List.map_id (ord.map ch)]
      exact List.map_congr_left fun y hy => by rw [if_neg (h4 y hy)]; rfl
    rw [e2]; exact (h.frame ho).more (by omega)
def unpinE (k : Nat) (L : List Chunk) : Int := if hasL k L then (if pinsOf k L = 0 then 91 else 0) else 90
theorem rep_unpin (h : Rep w a F most room p L) (hk : k < 65536) (hp : p < 1000000000) : Calls Try.prog 19 #[Ptr a, Sum_ k] w fun e w' => e = .returned (.int .i64 (unpinE k L)) ∧ Then w a F most room p (pinL (· - 1) k L) w' := by
  rcases h.cases k with ⟨c, l, x, r, E, ch, j, hg, hs, rfl, h2, h3, h4, h5, h6⟩ | ⟨c, ord, E, ch, hg, hs, rfl, h2, h3, h4⟩
  · have e1 : pinsOf k (l.map ch ++ ch x :: r.map ch) = (ch x).pins := by unfold pinsOf; rw [split_own h4 h5 h6]; rfl
    have hpx := h.pins (ch x) (by simp)
    cases hm : (ch x).pins with
    | zero =>
      refine (unpin_not w a F c _ E ch k hk hg hs hm).mono ?_
      rintro e w' ⟨rfl, ho⟩
      refine ⟨by rw [unpinE, has_split h4, e1, hm]; rfl, ⟨F, ?_, Grew.refl _ _⟩, ho.mono (fun _ _ h => h.elim)⟩
      have e2 : pinL (· - 1) k (l.map ch ++ ch x :: r.map ch) = l.map ch ++ ch x :: r.map ch := by
        unfold pinL; conv => rhs; rw [← List.map_id (l.map ch ++ ch x :: r.map ch)]
        refine List.map_congr_left fun y hy => ?_
        by_cases e : y.key = k
        · have : y = ch x := by
            rcases List.mem_append.1 hy with hy | hy
            · exact absurd e (h5 y hy)
            · rcases List.mem_cons.1 hy with hy | hy
              · exact hy
              · exact absurd e (h6 y hy)
          subst this; rw [if_pos e]; exact congrArg (fun q => (⟨(ch x).key, (ch x).b, q⟩ : Chunk)) (show (ch x).pins - 1 = (ch x).pins by omega)
        · rw [if_neg e]; rfl
      rw [e2]; exact h.frame ho
    | succ m =>
      refine (unpin_yes w a F c _ E ch k hk hg hs m hm (by omega)).mono ?_
      rintro e w' ⟨rfl, h8, h9⟩
      refine ⟨by rw [unpinE, has_split h4, e1, hm]; rfl, ⟨F, ?_, Grew.refl _ _⟩, h9⟩
      refine Rep.mk' h8 ?_ h2 h3 ?_
      · unfold pinL
        rw [show l.map ch ++ ch x :: r.map ch = (l ++ x :: r).map ch by simp, List.map_map]
        refine List.map_congr_left fun i hi => ?_
        show (if (ch i).key = k then _ else _) = _
        by_cases e : i = x
        · subst e; rw [if_pos h4, upd_same, hm]; rfl
        · rw [upd_other _ _ e, if_neg]
          intro e'; exact e (hg.key_inj hi (by simp) (by rw [e', h4]))
      · intro y hy; obtain ⟨z, hz, rfl⟩ := List.mem_map.1 hy
        have := h.pins z hz
        split <;> simp <;> omega
  · refine (unpin_no w a F c _ E ch k hk hg hs).mono ?_
    rintro e w' ⟨rfl, ho⟩
    refine ⟨by rw [unpinE, has_none h4]; rfl, ⟨F, ?_, Grew.refl _ _⟩, ho.mono (fun _ _ h => h.elim)⟩
    have e2 : pinL (· - 1) k (ord.map ch) = ord.map ch := by
      unfold pinL; conv => rhs; rw [← List.map_id (ord.map ch)]
      exact List.map_congr_left fun y hy => by rw [if_neg (h4 y hy)]; rfl
    rw [e2]; exact h.frame ho
theorem rep_evict (h : Rep w a F most room p L) (hk : k < 65536) : Calls Try.prog 20 #[Ptr a, Sum_ k] w fun e w' => e = .returned (.int .i64 (getE k L)) ∧ Then w a F most room p (oth k L) w' := by
  rcases h.cases k with ⟨c, l, x, r, E, ch, j, hg, hs, rfl, h2, h3, h4, h5, h6⟩ | ⟨c, ord, E, ch, hg, hs, rfl, h2, h3, h4⟩
  · refine (evict_yes w a F c l r E ch k hk hg hs).mono ?_
    rintro e w' ⟨rfl, c', E', h8, h9, h10, h11⟩
    refine ⟨by rw [getE, has_split h4]; rfl, ⟨F, ?_, Grew.refl _ _⟩, h11⟩
    rw [split_oth h4 h5 h6]
    refine Rep.mk' h8 (by simp) (h9.trans h2) (h10.trans h3) ?_
    intro y hy; exact h.pins y (by rcases List.mem_append.1 hy with hy | hy <;> simp [hy])
  · refine (evict_no w a F c _ E ch k hk hg hs).mono ?_
    rintro e w' ⟨rfl, ho⟩
    refine ⟨by rw [getE, has_none h4]; rfl, ⟨F, ?_, Grew.refl _ _⟩, ho.mono (fun _ _ h => h.elim)⟩
    have e2 : oth k (ord.map ch) = ord.map ch := by unfold oth; rw [List.filter_eq_self.2 (by simpa using h4)]
    rw [e2]; exact h.frame ho
def fullL (most room : Nat) (n : Nat) (L : List Chunk) : Bool := decide (most ≤ hN L) || decide (room < hB L + n)
def putE (most room k n : Nat) (L : List Chunk) : Int := if hasL k L then 0 else if fullL most room n L then 7 else 0
def putL (most room k : Nat) (b : List Int) (L : List Chunk) : List Chunk :=
  if hasL k L then touch k L else if fullL most room b.length L then L else trim most room b.length L ++ [⟨k, b, 0⟩]
theorem mem_dropL {x : Chunk} : ∀ {L : List Chunk}, x ∈ dropL L → x ∈ L
  | [], h => h
  | y :: L, h => by
    unfold dropL at h
    split at h
    · rcases List.mem_cons.1 h with rfl | h
      · simp
      · exact List.mem_cons_of_mem _ (mem_dropL h)
    · exact List.mem_cons_of_mem _ h
theorem mem_trimF {most n : Nat} {room : Int} {x : Chunk} : ∀ (f : Nat) {L : List Chunk}, x ∈ trimF most room n f L → x ∈ L
  | 0, _, h => h
  | f + 1, L, h => by
    unfold trimF at h
    split at h
    · exact mem_dropL (mem_trimF f h)
    · exact h
theorem mem_trim {most n : Nat} {room : Int} {x : Chunk} {L : List Chunk} (h : x ∈ trim most room n L) : x ∈ L := mem_trimF _ h
theorem rep_put (h : Rep w a F most room p L) (hk : k < 65536) {ao : Option Addr} {b : List Int} {cap : Nat} (hb : DataAt w (fun y => ¬ F y) ao b) (hl : b.length ≤ 1000000) :
    Calls Try.prog 17 #[Ptr a, Sum_ k, .slice ao b.length cap] w fun e w' => e = .returned (.int .i64 (putE most room k b.length L)) ∧ Then w a F most room p (putL most room k b L) w' := by
  rcases h.cases k with ⟨c, l, x, r, E, ch, j, hg, hs, rfl, h2, h3, h4, h5, h6⟩ | ⟨c, ord, E, ch, hg, hs, rfl, h2, h3, h4⟩
  · have e2 : touch k (l.map ch ++ ch x :: r.map ch) = (l ++ r ++ [x]).map ch := by unfold touch; rw [split_oth h4 h5 h6, split_own h4 h5 h6]; simp
    refine (put_yes w a F c l r E ch k hk hg hs ao b.length cap).mono ?_
    rintro e w' ⟨rfl, h8, h9⟩
    refine ⟨by rw [putE, has_split h4]; rfl, ⟨F, ?_, Grew.refl _ _⟩, h9⟩
    rw [putL, has_split h4, if_pos rfl, e2]
    refine Rep.mk' h8 rfl h2 h3 ?_
    intro y hy; exact h.pins y (by simp at hy ⊢; rcases hy with hy | hy | hy <;> simp [hy])
  · have e1 := heldN_eq hg.pins
    have e2 := heldB_eq hg.pins hg.len
    cases hf : fullL most room b.length (ord.map ch) with
    | true =>
      refine (put_full w a F c ord E ch k hk hg hs ao b.length cap ?_).mono ?_
      · simp only [fullL, Bool.or_eq_true, decide_eq_true_eq] at hf
        rw [e1, e2, h2, h3]; omega
      rintro e w' ⟨rfl, ho⟩
      refine ⟨by rw [putE, has_none h4, hf]; rfl, ⟨F, ?_, Grew.refl _ _⟩, ho.mono (fun _ _ h => h.elim)⟩
      rw [putL, has_none h4, hf]; exact h.frame ho
    | false =>
      simp only [fullL, Bool.or_eq_false_iff, decide_eq_false_iff_not] at hf
      refine (put_no w a F c ord E ch k hk hg hs ao b cap hb hl (by rw [e1, h2]; omega) (by rw [e2, h3]; omega)).mono ?_
      rintro e w' ⟨rfl, F', c', ord', E', ch', h5, h6, h7, h8, h9, h10, h11⟩
      have hf' : fullL most room b.length (ord.map ch) = false := by simp only [fullL, Bool.or_eq_false_iff, decide_eq_false_iff_not]; exact hf
      refine ⟨by rw [putE, has_none h4, hf']; rfl, ⟨F', ?_, h9, h10⟩, h11⟩
      rw [putL, has_none h4, hf']
      refine Rep.mk' h5 ?_ (h7.trans h2) (h8.trans h3) ?_
      · rw [h6, h2, h3]; rfl
      · intro y hy
        rcases List.mem_append.1 (show y ∈ _ ++ _ from hy) with hy | hy
        · exact h.pins y (mem_trim hy)
        · simp at hy; subst hy; exact Nat.zero_le _
end
end Go.Proofs.Ytafeiankpckijaa
