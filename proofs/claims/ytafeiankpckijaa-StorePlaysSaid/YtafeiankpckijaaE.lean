/- The order of use as a list: what linking in and out does to it. No program in sight. -/
import Derived.Test.YtafeiankpckijaaB
namespace Go.Proofs.Ytafeiankpckijaa
set_option linter.unusedSimpArgs false
set_option linter.unusedVariables false
/-- The first of them, or none. -/
def headI : List Nat → Int
  | [] => -1
  | i :: _ => i
/-- Each leads to the next. -/
def Chain (f : Nat → Int) : List Nat → Prop
  | [] => True
  | i :: r => f i = headI r ∧ Chain f r
theorem Chain.congr {f g : Nat → Int} : ∀ {l : List Nat}, (∀ i ∈ l, g i = f i) → Chain f l → Chain g l
  | [], _, _ => trivial
  | i :: r, h, ⟨h1, h2⟩ => ⟨(h i (by simp)).trans h1, Chain.congr (fun j hj => h j (by simp [hj])) h2⟩
theorem headI_app (l : List Nat) (p : Nat) (r s : List Nat) : headI (l ++ p :: r) = headI (l ++ p :: s) := by cases l <;> rfl
theorem Chain.right {f : Nat → Int} : ∀ {l : List Nat} {r : List Nat}, Chain f (l ++ r) → Chain f r
  | [], _, h => h
  | _ :: l, _, h => Chain.right (l := l) h.2
/-- One is passed over. -/
theorem Chain.skip {f : Nat → Int} {p i : Nat} {r : List Nat} : ∀ {l : List Nat}, p ∉ l → p ∉ r → Chain f (l ++ p :: i :: r) → Chain (upd f p (headI r)) (l ++ p :: r)
  | [], _, hr, h => by
    refine ⟨upd_same _ _ _, Chain.congr (fun j hj => upd_other _ _ ?_) h.2.2⟩
    rintro rfl; exact hr hj
  | x :: l, hl, hr, h => by
    refine ⟨?_, Chain.skip (l := l) (fun hm => hl (by simp [hm])) hr h.2⟩
    rw [upd_other _ _ (by rintro rfl; exact hl (by simp))]
    exact h.1.trans (headI_app l p (i :: r) r)
/-- One more at the end. -/
theorem Chain.put {f : Nat → Int} {y i : Nat} : ∀ {l : List Nat}, y ∉ l → i ∉ l → i ≠ y → Chain f (l ++ [y]) → Chain (upd (upd f i (-1)) y i) (l ++ [y, i])
  | [], _, _, hi, h => ⟨upd_same _ _ _, by rw [upd_other _ _ hi, upd_same]; rfl, trivial⟩
  | x :: l, hy, hi, hne, h => by
    refine ⟨?_, Chain.put (l := l) (fun hm => hy (by simp [hm])) (fun hm => hi (by simp [hm])) hne h.2⟩
    rw [upd_other _ _ (by rintro rfl; exact hy (by simp)), upd_other _ _ (by rintro rfl; exact hi (by simp))]
    exact h.1.trans (headI_app l y [] [i])

/-- The slots in the order of use. -/
structure Linked (c : C) (ord : List Nat) : Prop where
  old : c.old = headI ord
  next : Chain c.next ord
  young : c.young = headI ord.reverse
  prev : Chain c.prev ord.reverse
  nodup : ord.Nodup
  lt : ∀ i ∈ ord, i < c.n
theorem headI_spot {n : Nat} {l : List Nat} (h : ∀ i ∈ l, i < n) : Spot n (headI l) := by
  cases l with
  | nil => exact Or.inl rfl
  | cons i r => exact Or.inr ⟨i, h i (by simp), rfl⟩
namespace Linked
variable {c : C} {l r : List Nat} {i : Nat}
theorem nextI (h : Linked c (l ++ i :: r)) : c.next i = headI r := (Chain.right h.next).1
theorem prevI (h : Linked c (l ++ i :: r)) : c.prev i = headI l.reverse := by
  have := h.prev
  rw [List.reverse_append, List.reverse_cons, List.append_assoc] at this
  exact (Chain.right this).1
theorem spotN (h : Linked c (l ++ i :: r)) : Spot c.n (c.next i) := by rw [h.nextI]; exact headI_spot fun j hj => h.lt j (by simp [hj])
theorem spotP (h : Linked c (l ++ i :: r)) : Spot c.n (c.prev i) := by rw [h.prevI]; exact headI_spot fun j hj => h.lt j (by simp at hj; simp [hj])
theorem spotY {ord : List Nat} (h : Linked c ord) : Spot c.n c.young := by rw [h.young]; exact headI_spot fun j hj => h.lt j (by simpa using hj)
theorem spotO {ord : List Nat} (h : Linked c ord) : Spot c.n c.old := by rw [h.old]; exact headI_spot fun j hj => h.lt j hj
theorem headI_neg {l : List Nat} (h : headI l = -1) : l = [] := by
  cases l with
  | nil => rfl
  | cons i r => simp [headI] at h
theorem headI_rev (l' : List Nat) (p : Nat) : headI (l' ++ [p]).reverse = p := by simp [headI]
theorem unlink (h : Linked c (l ++ i :: r)) : Linked (c.unlink i) (l ++ r) := by
  have hn := h.nextI
  have hp := h.prevI
  have hnd := h.nodup
  rw [List.nodup_append] at hnd
  obtain ⟨d1, d2, d3⟩ := hnd
  rw [List.nodup_cons] at d2
  have hni : i ∉ l := fun hm => d3 i hm i (by simp) rfl
  have hdis : ∀ x ∈ l, ∀ y ∈ r, x ≠ y := fun x hx y hy => d3 x hx y (by simp [hy])
  have hch := h.next
  have hch' := h.prev
  rw [List.reverse_append, List.reverse_cons, List.append_assoc] at hch'
  have hyo := h.young
  rw [List.reverse_append, List.reverse_cons, List.append_assoc] at hyo
  have hold := h.old
  have hnodup : (l ++ r).Nodup := List.nodup_append.2 ⟨d1, d2.2, hdis⟩
  have hlt : ∀ j ∈ l ++ r, j < c.n := fun j hj => h.lt j (by rcases List.mem_append.1 hj with hj | hj <;> simp [hj])
  -- the way forth
  have key : (c.unlink i).old = headI (l ++ r) ∧ Chain (c.unlink i).next (l ++ r) := by
    rcases List.eq_nil_or_concat l with rfl | ⟨l', p, rfl⟩
    · have hp' : c.prev i = -1 := hp
      have e1 : (c.unlink i).old = c.next i := by simp only [C.unlink, hp', if_true]
      have e2 : (c.unlink i).next = c.next := by simp only [C.unlink, hp', if_true]
      rw [e1, e2]
      exact ⟨hn, (Chain.right (l := [i]) hch)⟩
    · simp only [List.concat_eq_append] at *
      have hp' : c.prev i = (p : Int) := hp.trans (headI_rev l' p)
      have hne : ¬ c.prev i = -1 := by rw [hp']; omega
      have e1 : (c.unlink i).old = c.old := by simp only [C.unlink, hne, if_false]
      have e2 : (c.unlink i).next = upd c.next p (c.next i) := by simp only [C.unlink]; rw [if_neg hne, hp', Int.toNat_natCast]
      rw [e1, e2, hn]
      rw [List.nodup_append] at d1
      refine ⟨?_, ?_⟩
      · rw [hold]; simp only [List.append_assoc, List.singleton_append]; exact headI_app l' p _ _
      · simp only [List.append_assoc, List.singleton_append] at hch ⊢
        exact Chain.skip (fun hm => d1.2.2 p hm p (by simp) rfl) (fun hm => hdis p (by simp) p hm rfl) hch
  have key' : (c.unlink i).young = headI (l ++ r).reverse ∧ Chain (c.unlink i).prev (l ++ r).reverse := by
    rw [List.reverse_append]
    cases r with
    | nil =>
      have hn' : c.next i = -1 := hn
      have e1 : (c.unlink i).young = c.prev i := by simp only [C.unlink, hn', if_true]
      have e2 : (c.unlink i).prev = c.prev := by simp only [C.unlink, hn', if_true]
      rw [e1, e2]
      exact ⟨hp, Chain.right (l := [i]) (by simpa using hch')⟩
    | cons q r' =>
      have hn' : c.next i = (q : Int) := hn
      have hne : ¬ c.next i = -1 := by rw [hn']; omega
      have e1 : (c.unlink i).young = c.young := by simp only [C.unlink, hne, if_false]
      have e2 : (c.unlink i).prev = upd c.prev q (c.prev i) := by simp only [C.unlink]; rw [if_neg hne, hn', Int.toNat_natCast]
      rw [e1, e2, hp]
      simp only [List.reverse_cons, List.append_assoc, List.singleton_append] at hch' hyo ⊢
      have d2' := d2.2
      rw [List.nodup_cons] at d2'
      refine ⟨?_, ?_⟩
      · rw [hyo]; exact headI_app _ q _ _
      · exact Chain.skip (fun hm => d2'.1 (by simpa using hm)) (fun hm => hdis q (by simpa using hm) q (by simp) rfl) hch'
  have e3 : (c.unlink i).n = c.n := rfl
  exact ⟨key.1, key.2, key'.1, key'.2, hnodup, fun j hj => by rw [e3]; exact hlt j hj⟩
theorem link {ord : List Nat} (h : Linked c ord) (hi : i < c.n) (hni : i ∉ ord) : Linked (c.link i) (ord ++ [i]) := by
  have e3 : (c.link i).n = c.n := rfl
  have e4 : (c.link i).young = i := rfl
  have e5 : (c.link i).prev = upd c.prev i c.young := rfl
  have hnodup : (ord ++ [i]).Nodup := by
    rw [List.nodup_append]; exact ⟨h.nodup, by simp, fun x hx y hy => by simp at hy; subst hy; rintro rfl; exact hni hx⟩
  have hlt : ∀ j ∈ ord ++ [i], j < (c.link i).n := fun j hj => by
    rw [e3]; rcases List.mem_append.1 hj with hj | hj
    · exact h.lt j hj
    · simp at hj; omega
  have hprev : Chain (c.link i).prev (ord ++ [i]).reverse := by
    rw [e5, List.reverse_append]
    refine ⟨?_, Chain.congr (fun j hj => upd_other _ _ ?_) h.prev⟩
    · rw [upd_same]; exact h.young
    · rintro rfl; exact hni (by simpa using hj)
  have hy : (c.link i).young = headI (ord ++ [i]).reverse := by rw [e4, headI_rev]
  rcases List.eq_nil_or_concat ord with rfl | ⟨l', p, rfl⟩
  · have hyo : c.young = -1 := h.young
    have e1 : (c.link i).old = i := by simp only [C.link, hyo, if_true]
    have e2 : (c.link i).next = upd c.next i (-1) := by simp only [C.link, hyo, if_true]
    exact ⟨e1, by rw [e2]; exact ⟨upd_same _ _ _, trivial⟩, hy, hprev, hnodup, hlt⟩
  · simp only [List.concat_eq_append] at *
    have hyo : c.young = (p : Int) := h.young.trans (headI_rev l' p)
    have hne : ¬ c.young = -1 := by rw [hyo]; omega
    have e1 : (c.link i).old = c.old := by simp only [C.link, hne, if_false]
    have e2 : (c.link i).next = upd (upd c.next i (-1)) p i := by simp only [C.link]; rw [if_neg hne, hyo, Int.toNat_natCast]
    have hnd := h.nodup
    rw [List.nodup_append] at hnd
    refine ⟨?_, ?_, hy, hprev, hnodup, hlt⟩
    · rw [e1, h.old]; simp only [List.append_assoc, List.singleton_append]; exact headI_app l' p _ _
    · rw [e2]; simp only [List.append_assoc, List.singleton_append]
      exact Chain.put (fun hm => hnd.2.2 p hm p (by simp) rfl) (fun hm => hni (by simp [hm])) (by rintro rfl; exact hni (by simp)) h.next
end Linked
end Go.Proofs.Ytafeiankpckijaa
