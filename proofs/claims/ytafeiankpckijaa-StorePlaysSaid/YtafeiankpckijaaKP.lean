/- What is held stays: the plain law of StoreKept. -/
import Derived.Test.YtafeiankpckijaaLM
namespace Go.Proofs.Ytafeiankpckijaa
set_option linter.unusedSimpArgs false
set_option linter.unusedVariables false
/-- A digest's chunk is there, with these bytes, and held. -/
def Stays (k : Nat) (b : List Int) (L : List Chunk) : Prop := ∃ q, own k L = [⟨k, b, q + 1⟩]
theorem Stays.has {k : Nat} {b : List Int} {L : List Chunk} (h : Stays k b L) : hasL k L = true := by
  obtain ⟨q, h⟩ := h; exact has_own.2 (by rw [h]; simp)
theorem Stays.data {k : Nat} {b : List Int} {L : List Chunk} (h : Stays k b L) : dataOf k L = b := by
  obtain ⟨q, h⟩ := h; unfold dataOf; rw [h]; rfl
theorem own_oth_ne {j k : Nat} {L : List Chunk} (h : j ≠ k) : own k (oth j L) = own k L := by
  unfold own oth
  rw [List.filter_filter]
  refine List.filter_congr fun x _ => ?_
  by_cases e : x.key = k
  · simp [e]; exact fun h' => h h'.symm
  · simp [e]
theorem own_own_ne {j k : Nat} {L : List Chunk} (h : j ≠ k) : own k (own j L) = [] := by
  unfold own
  rw [List.filter_filter, List.filter_eq_nil_iff]
  intro x _
  simp only [Bool.and_eq_true, beq_iff_eq, not_and]
  intro h1 h2; exact h (h2.symm.trans h1)
theorem own_touch_any {j k : Nat} {L : List Chunk} : own k (touch j L) = own k L := by
  by_cases h : j = k
  · subst h; exact own_touch
  · unfold touch; rw [own_app, own_oth_ne h, own_own_ne h, List.append_nil]
theorem own_pinL_ne {f : Nat → Nat} {j k : Nat} {L : List Chunk} (h : j ≠ k) : own k (pinL f j L) = own k L := by
  induction L with
  | nil => rfl
  | cons x L ih =>
    unfold own pinL at *
    by_cases e : x.key = j
    · have hk : ¬ x.key = k := fun e' => h (e.symm.trans e')
      rw [List.map_cons, if_pos e, List.filter_cons, List.filter_cons, if_neg (by simpa using hk), if_neg (by simpa using hk), ih]
    · simp [e]
      by_cases e' : x.key = k
      · simp [e', ih]
      · simp [e', ih]
theorem own_dropL {k : Nat} : ∀ {L : List Chunk}, (∀ x ∈ own k L, 0 < x.pins) → own k (dropL L) = own k L
  | [], _ => rfl
  | x :: L, h => by
    unfold dropL
    by_cases hp : 0 < x.pins
    · rw [if_pos hp]
      have ih := own_dropL (k := k) (L := L) (fun y hy => h y (by
        unfold own at hy ⊢
        rw [List.filter_cons]; split
        · exact List.mem_cons_of_mem _ hy
        · exact hy))
      unfold own at ih ⊢
      rw [List.filter_cons, List.filter_cons, ih]
    · rw [if_neg hp]
      have hx : ¬ x.key = k := fun e => hp (h x (by unfold own; rw [List.filter_cons, if_pos (by simp [e])]; simp))
      unfold own
      rw [List.filter_cons, if_neg (by simp [hx])]
theorem own_trimF {k most n : Nat} {room : Int} : ∀ (f : Nat) {L : List Chunk}, (∀ x ∈ own k L, 0 < x.pins) → own k (trimF most room n f L) = own k L
  | 0, _, _ => rfl
  | f + 1, L, h => by
    unfold trimF
    split
    · have e := own_dropL h
      rw [own_trimF f (by rw [e]; exact h), e]
    · rfl
theorem own_trim {k most n : Nat} {room : Int} {L : List Chunk} (h : ∀ x ∈ own k L, 0 < x.pins) : own k (trim most room n L) = own k L := own_trimF _ h
theorem Stays.of_own {k : Nat} {b : List Int} {L M : List Chunk} (h : Stays k b L) (e : own k M = own k L) : Stays k b M := by
  obtain ⟨q, h⟩ := h; exact ⟨q, e.trans h⟩
theorem Stays.put {k j most room : Nat} {b c : List Int} {L : List Chunk} (h : Stays k b L) : Stays k b (putL most room j c L) := by
  unfold putL
  cases hj : hasL j L with
  | true => exact h.of_own own_touch_any
  | false =>
    have hne : j ≠ k := fun e => by subst e; rw [h.has] at hj; cases hj
    cases hf : fullL most room c.length L with
    | true => exact h
    | false =>
      refine h.of_own ?_
      show own k (trim most room c.length L ++ [⟨j, c, 0⟩]) = _
      rw [own_app, own_trim]
      · unfold own; simp [hne]
      · obtain ⟨q, h⟩ := h; rw [h]; simp
theorem Stays.pin {k j : Nat} {b : List Int} {L : List Chunk} (h : Stays k b L) : Stays k b (pinL (· + 1) j L) := by
  by_cases e : j = k
  · subst e; obtain ⟨q, h⟩ := h; exact ⟨q + 1, by rw [own_pinL, h]; rfl⟩
  · exact h.of_own (own_pinL_ne e)
/-- Whatever is called but a wipe, and an unpin or evict of the digest itself. -/
theorem Stays.does {k most room : Nat} {b : List Int} {L : List Chunk} {d : D} (h : Stays k b L) (h7 : d.op % 8 ≠ 7) (hk : keyOf d.id = k → d.op % 8 ≤ 4) : Stays k b (doL most room d L) := by
  unfold doL
  split
  · exact h.of_own own_touch_any
  split
  · exact h.pin
  split
  · refine h.of_own (own_pinL_ne fun e => ?_); have := hk e; omega
  split
  · refine h.of_own (own_oth_ne fun e => ?_); have := hk e; omega
  exact h.put
theorem stays_start {k most room : Nat} {b : List Int} {L : List Chunk} (h : hasL k L = false) (hf : fullL most room b.length L = false) : Stays k b (pinL (· + 1) k (putL most room k b L)) :=
  ⟨0, by rw [own_pinL, own_put h hf]; rfl⟩
end Go.Proofs.Ytafeiankpckijaa
