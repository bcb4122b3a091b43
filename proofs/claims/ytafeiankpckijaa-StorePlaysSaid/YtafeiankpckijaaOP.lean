/- What goes for another one's sake: the plain law of StoreOrder. -/
import Derived.Test.YtafeiankpckijaaKP
namespace Go.Proofs.Ytafeiankpckijaa
set_option linter.unusedSimpArgs false
set_option linter.unusedVariables false
def pinned (L : List Chunk) : List Chunk := L.filter fun x => decide (0 < x.pins)
def loose (L : List Chunk) : List Chunk := L.filter fun x => decide (x.pins = 0)
theorem pinned_dropL : ∀ L : List Chunk, pinned (dropL L) = pinned L
  | [] => rfl
  | x :: L => by
    have ih := pinned_dropL L
    unfold pinned at ih ⊢
    unfold dropL
    by_cases h : 0 < x.pins
    · rw [if_pos h, List.filter_cons, List.filter_cons, ih]
    · rw [if_neg h, List.filter_cons, if_neg (by simpa using h)]
theorem loose_dropL : ∀ L : List Chunk, loose (dropL L) = (loose L).drop 1
  | [] => rfl
  | x :: L => by
    have ih := loose_dropL L
    unfold loose at ih ⊢
    unfold dropL
    by_cases h : 0 < x.pins
    · rw [if_pos h, List.filter_cons, List.filter_cons, if_neg (by simp; omega), if_neg (by simp; omega), ih]
    · rw [if_neg h, List.filter_cons, if_pos (by simp; omega)]; rfl
theorem trimF_shape {most n : Nat} {room : Int} : ∀ (f : Nat) (L : List Chunk), pinned (trimF most room n f L) = pinned L ∧ ∃ m, loose (trimF most room n f L) = (loose L).drop m
  | 0, L => ⟨rfl, 0, rfl⟩
  | f + 1, L => by
    unfold trimF
    split
    · obtain ⟨h1, m, h2⟩ := trimF_shape (most := most) (n := n) (room := room) f (dropL L)
      exact ⟨h1.trans (pinned_dropL L), 1 + m, by rw [h2, loose_dropL, List.drop_drop]⟩
    · exact ⟨rfl, 0, rfl⟩
theorem nodup_key {L : List Chunk} (h : (L.map (·.key)).Nodup) {x y : Chunk} (hx : x ∈ L) (hy : y ∈ L) (e : x.key = y.key) : x = y := by
  induction L with
  | nil => cases hx
  | cons z L ih =>
    rw [List.map_cons, List.nodup_cons] at h
    rcases List.mem_cons.1 hx with h1 | h1 <;> rcases List.mem_cons.1 hy with h2 | h2
    · rw [h1, h2]
    · exact (h.1 (List.mem_map.2 ⟨y, h2, by rw [← e, h1]⟩)).elim
    · exact (h.1 (List.mem_map.2 ⟨x, h1, by rw [e, h2]⟩)).elim
    · exact ih h.2 h1 h2
theorem nodup_of_keys {L : List Chunk} (h : (L.map (·.key)).Nodup) : L.Nodup := by
  induction L with
  | nil => exact List.nodup_nil
  | cons z L ih =>
    rw [List.map_cons, List.nodup_cons] at h
    rw [List.nodup_cons]
    exact ⟨fun hz => h.1 (List.mem_map.2 ⟨z, hz, rfl⟩), ih h.2⟩
section
variable {most room k j : Nat} {b : List Int} {L : List Chunk}
/-- Those that are held, and the digest itself, are there. -/
theorem put_keeps (hE : putE most room k b.length L = 0) {x : Chunk} (hx : x ∈ L) (h : x.key = k ∨ 0 < x.pins) : hasL x.key (putL most room k b L) = true := by
  rcases h with h | h
  · rw [h]; exact put_has hE
  · cases hh : hasL k L with
    | true => rw [putL_has hh, has_touch, has_iff]; exact List.mem_map.2 ⟨x, hx, rfl⟩
    | false =>
      cases hf : fullL most room b.length L with
      | true => rw [putE_full hh hf] at hE; cases hE
      | false =>
        unfold putL; rw [hh, hf]
        show hasL x.key (trim most room b.length L ++ [⟨k, b, 0⟩]) = true
        rw [has_iff, List.map_append, List.mem_append]
        refine Or.inl (List.mem_map.2 ⟨x, ?_, rfl⟩)
        have h1 := (trimF_shape (most := most) (n := b.length) (room := (room : Int)) L.length L).1
        have h2 : x ∈ pinned L := by unfold pinned; rw [List.mem_filter]; exact ⟨hx, by simpa using h⟩
        rw [← h1] at h2
        exact (List.mem_filter.1 h2).1
/-- A loose one that went: so had all loose ones ahead of it, and the digest was not there. -/
theorem put_drops (hE : putE most room k b.length L = 0) (hnd : (L.map (·.key)).Nodup) (hj : j < L.length) (hp : (L[j]).pins = 0) (hg : hasL (L[j]).key (putL most room k b L) = false) :
    hasL k L = false ∧ ∀ y ∈ L.take j, y.pins = 0 → hasL y.key (putL most room k b L) = false := by
  cases hh : hasL k L with
  | true =>
    rw [putL_has hh, has_touch, has_iff'] at hg
    exact absurd (List.mem_map.2 ⟨L[j], List.getElem_mem hj, rfl⟩) hg
  | false =>
    refine ⟨rfl, fun y hy hyp => ?_⟩
    cases hf : fullL most room b.length L with
    | true => rw [putE_full hh hf] at hE; cases hE
    | false =>
      have e : putL most room k b L = trim most room b.length L ++ [⟨k, b, 0⟩] := by unfold putL; rw [hh, hf]; rfl
      rw [e, has_iff', List.map_append, List.mem_append] at hg ⊢
      have hyL : y ∈ L := List.mem_of_mem_take hy
      rintro (hm | hm)
      · obtain ⟨z, hz, hzk⟩ := List.mem_map.1 hm
        obtain rfl := nodup_key hnd (mem_trim hz) hyL hzk
        obtain ⟨m, h1⟩ := (trimF_shape (most := most) (n := b.length) (room := (room : Int)) L.length L).2
        have h2 : z ∈ loose (trim most room b.length L) := by unfold loose; rw [List.mem_filter]; exact ⟨hz, by simpa using hyp⟩
        have h2' : z ∈ (loose L).drop m := by rw [← h1]; exact h2
        have hsplit : L = L.take j ++ L[j] :: L.drop (j + 1) := by rw [← List.drop_eq_getElem_cons hj, List.take_append_drop]
        have h3 : loose L = loose (L.take j) ++ L[j] :: loose (L.drop (j + 1)) := by
          conv => lhs; rw [hsplit]
          unfold loose
          rw [List.filter_append, List.filter_cons, if_pos (by simpa using hp)]
        have hnl : (loose L).Nodup := (List.filter_sublist ..).nodup (nodup_of_keys hnd)
        rw [h3] at h2' hnl
        have hzl : z ∈ loose (L.take j) := by unfold loose; rw [List.mem_filter]; exact ⟨hy, by simpa using hyp⟩
        have hmle : m ≤ (loose (L.take j)).length := by
          rcases Nat.lt_or_ge (loose (L.take j)).length m with hlt | hge
          · exfalso
            rw [List.drop_append, List.drop_eq_nil_of_le (by omega), List.nil_append] at h2'
            exact absurd rfl ((List.nodup_append.1 hnl).2.2 z hzl z (List.mem_of_mem_drop h2'))
          · exact hge
        have h4 : L[j] ∈ (loose L).drop m := by
          rw [h3, List.drop_append_of_le_length hmle]; simp
        rw [← h1] at h4
        exact hg (Or.inl (List.mem_map.2 ⟨L[j], (List.mem_filter.1 h4).1, rfl⟩))
      · simp at hm
        rw [has_iff'] at hh
        exact hh (List.mem_map.2 ⟨y, hyL, hm⟩)
theorem put_last (hE : putE most room k b.length L = 0) (hnd : (L.map (·.key)).Nodup) : ∃ A, (putL most room k b L).map (·.key) = A ++ [k] := by
  cases hh : hasL k L with
  | true =>
    rw [putL_has hh]
    obtain ⟨x, hx, hxk⟩ := List.mem_map.1 (has_iff.1 hh)
    have ho : own k L = [x] := by
      have h1 : ∀ y ∈ own k L, y = x := fun y hy => by
        obtain ⟨h2, h3⟩ := List.mem_filter.1 hy
        exact nodup_key hnd h2 hx ((by simpa using h3 : y.key = k).trans hxk.symm)
      have h2 : (own k L).Nodup := (List.filter_sublist ..).nodup (nodup_of_keys hnd)
      have h3 : x ∈ own k L := List.mem_filter.2 ⟨hx, by simpa using hxk⟩
      match hl : own k L with
      | [] => rw [hl] at h3; cases h3
      | [y] => rw [h1 y (by rw [hl]; simp)]
      | y :: z :: r =>
        rw [hl] at h2
        have e1 := h1 y (by rw [hl]; simp)
        have e2 := h1 z (by rw [hl]; simp)
        rw [e1, e2] at h2
        simp at h2
    exact ⟨(oth k L).map (·.key), by unfold touch; rw [ho, List.map_append]; simp [hxk]⟩
  | false =>
    cases hf : fullL most room b.length L with
    | true => rw [putE_full hh hf] at hE; cases hE
    | false => exact ⟨(trim most room b.length L).map (·.key), by unfold putL; rw [hh, hf]; simp⟩
theorem put_full_same (hE : putE most room k b.length L = 7) : putL most room k b L = L := by
  cases hh : hasL k L with
  | true => rw [putE_has hh] at hE; cases hE
  | false =>
    cases hf : fullL most room b.length L with
    | true => unfold putL; rw [hh, hf]; rfl
    | false => rw [putE_free hh hf] at hE; cases hE
theorem pinL_id {f : Nat → Nat} (h : ∀ x ∈ L, x.key = k → f x.pins = x.pins) : pinL f k L = L := by
  unfold pinL
  conv => rhs; rw [← List.map_id L]
  refine List.map_congr_left fun x hx => ?_
  by_cases e : x.key = k
  · rw [if_pos e, h x hx e]; rfl
  · rw [if_neg e]; rfl
theorem pinL_back (h : ∀ x ∈ L, x.key = k → 0 < x.pins) : pinL (· + 1) k (pinL (· - 1) k L) = L := by
  unfold pinL
  rw [List.map_map]
  conv => rhs; rw [← List.map_id L]
  refine List.map_congr_left fun x hx => ?_
  by_cases e : x.key = k
  · have := h x hx e
    simp only [Function.comp, if_pos e, id]
    rw [show x.pins - 1 + 1 = x.pins by omega]
  · simp only [Function.comp, if_neg e, id]
theorem pinsOf_at (hnd : (L.map (·.key)).Nodup) {x : Chunk} (hx : x ∈ L) : pinsOf x.key L = x.pins := by
  unfold pinsOf
  have h3 : x ∈ own x.key L := List.mem_filter.2 ⟨hx, by simp⟩
  match hl : own x.key L with
  | [] => rw [hl] at h3; cases h3
  | y :: r =>
    have hy : y ∈ own x.key L := by rw [hl]; simp
    obtain ⟨h1, h2⟩ := List.mem_filter.1 hy
    rw [nodup_key hnd h1 hx (by simpa using h2)]; rfl
end
/-- Have all loose ones among the first so many gone? -/
def goneB (k : Nat) (M L : List Chunk) (j : Nat) : Bool := (L.take j).all fun y => decide (0 < y.pins) || (y.key == k) || !hasL y.key M
theorem goneB_succ {k j : Nat} {M L : List Chunk} (hj : j < L.length) : goneB k M L (j + 1) = (goneB k M L j && (decide (0 < (L[j]).pins) || ((L[j]).key == k) || !hasL (L[j]).key M)) := by
  unfold goneB; rw [List.take_succ_eq_append_getElem hj, List.all_append]; simp
end Go.Proofs.Ytafeiankpckijaa
