/- A store of the law's own beside other rows of the law: data and lists that are held over calls. -/
import Derived.Test.YtafeiankpckijaaLL
import Derived.Test.YtafeiankpckijaaBE
import Derived.Test.YtafeiankpckijaaSX
namespace Go.Proofs.Ytafeiankpckijaa
open Go.RowKit
set_option linter.unusedSimpArgs false
set_option linter.unusedVariables false
theorem own_beside {w w' : World} {B : Nat} {e : TypeId} {s n : Nat} {v : Value} {xs : List Value} {G : Nat → Prop} (h : w.ownsRow B e s v n xs) (hb : Beside G w w') (hG : ∀ g, v.ownBlock = some g → G g) : w'.ownsRow B e s v n xs := by
  have hlt := h.lt
  obtain ⟨h1, h2 | ⟨g, cap, cur, rfl, hB, hg, hr⟩⟩ := h
  · exact ⟨h1, Or.inl h2⟩
  · exact ⟨h1, Or.inr ⟨g, cap, cur, rfl, hB, (hb.block g (hlt g rfl).2 (fun hn => hn (hG g rfl))).trans hg, hr⟩⟩
theorem own_only {w w' : World} {B : Nat} {e : TypeId} {s n : Nat} {v : Value} {xs : List Value} (h : w.ownsRow B e s v n xs) (ho : Only (fun _ => False) w w') : w'.ownsRow B e s v n xs := own_beside (G := fun _ => True) h (Beside.of ho) (fun _ _ => trivial)
theorem DataAt.beside {w w' : World} {G : Nat → Prop} {ao : Option Addr} {b : List Int} (h : DataAt w G ao b) (hb : Beside G w w') : DataAt w' G ao b := fun j hj => by
  obtain ⟨ad, h1, h2, h3⟩ := h j hj
  exact ⟨ad, h1, hb.cell h2 (by rw [add_block]; exact h3), h3⟩
/-- A row of digests in these blocks. -/
def RowIn (w : World) (G : Nat → Prop) (v : Value) (ks : List Nat) : Prop := (∃ B, w.ownsRow B 38 32 v ks.length (ks.flatMap sumC)) ∧ (∀ g, v.ownBlock = some g → G g) ∧ ∀ k ∈ ks, k < 65536
theorem RowIn.beside {w w' : World} {G : Nat → Prop} {v : Value} {ks : List Nat} (h : RowIn w G v ks) (hb : Beside G w w') : RowIn w' G v ks := by
  obtain ⟨⟨B, h1⟩, h2⟩ := h; exact ⟨⟨B, own_beside h1 hb h2.1⟩, h2⟩
theorem RowIn.only {w w' : World} {G : Nat → Prop} {v : Value} {ks : List Nat} (h : RowIn w G v ks) (ho : Only (fun _ => False) w w') : RowIn w' G v ks := h.beside (Beside.of ho)
theorem RowIn.mono {w : World} {G G' : Nat → Prop} {v : Value} {ks : List Nat} (h : RowIn w G v ks) (hs : ∀ y, G y → G' y) : RowIn w G' v ks := ⟨h.1, fun g hg => hs g (h.2.1 g hg), h.2.2⟩
theorem RowIn.keys {w : World} {G : Nat → Prop} {v : Value} {ks : List Nat} (h : RowIn w G v ks) : Keys w v ks := by
  obtain ⟨⟨B, h1⟩, h2⟩ := h; exact keys_of_owns h1 h2.2
section
variable {W w w' : World} {a most room p k : Nat} {L : List Chunk} {G : Nat → Prop}
theorem Mine2.getIn (h : Mine2 W w a most room p L G) (hk : k < 65536) : Calls Try.prog 13 #[Ptr a, Sum_ k] w fun e w' => ∃ bo cb G', e = .returned (.tuple #[.slice bo (dataOf k L).length cb, .int .i64 (getE k L)]) ∧
      DataAt w' G' bo (dataOf k L) ∧ Mine2 W w' a most room p (touch k L) G' ∧ (∀ y, G y → G' y) ∧ Beside G w w' := by
  refine (h.get hk).mono ?_
  rintro e w' ⟨bo, cb, rfl, h1, h2, h3⟩
  exact ⟨bo, cb, _, rfl, h1.mono (fun y hy => Or.inr hy), h2, fun y hy => Or.inl hy, h3⟩
theorem Mine2.listIn (h : Mine2 W w a most room p L G) : Calls Try.prog 24 #[Ptr a] w fun e w' => ∃ v G', e = .returned v ∧ RowIn w' G' v (L.map (·.key)) ∧ Mine2 W w' a most room p L G' ∧ (∀ y, G y → G' y) ∧ Only (fun _ => False) w w' := by
  refine h.list.mono ?_
  rintro e w' ⟨v, rfl, h1, h2, h3, h4⟩
  have hlt := h1.lt
  refine ⟨v, _, rfl, ⟨⟨_, by simpa [List.flatMap_map] using h1⟩, fun g hg => Or.inr (hlt g hg), fun x hx => ?_⟩, h4, fun y hy => Or.inl hy, h3⟩
  obtain ⟨y, hy, rfl⟩ := List.mem_map.1 hx; exact h.mine.keys y hy
end
theorem has_touch {j k : Nat} {L : List Chunk} : hasL j (touch k L) = hasL j L := by
  unfold touch oth own hasL
  rw [Bool.eq_iff_iff]
  simp only [List.any_append, List.any_filter, Bool.or_eq_true, List.any_eq_true, Bool.and_eq_true]
  constructor
  · rintro (⟨x, h1, h2, h3⟩ | ⟨x, h1, h2, h3⟩) <;> exact ⟨x, h1, h3⟩
  · rintro ⟨x, h1, h2⟩
    by_cases e : x.key = k
    · exact Or.inr ⟨x, h1, by simp [e], h2⟩
    · exact Or.inl ⟨x, h1, by simp [e], h2⟩
theorem own_oth {k : Nat} {L : List Chunk} : own k (oth k L) = [] := own_nil_of has_oth
theorem own_own {k : Nat} {L : List Chunk} : own k (own k L) = own k L := by unfold own; simp
theorem oth_oth {k : Nat} {L : List Chunk} : oth k (oth k L) = oth k L := by unfold oth; simp
theorem oth_own {k : Nat} {L : List Chunk} : oth k (own k L) = [] := by
  unfold oth own; rw [List.filter_eq_nil_iff]; intro x hx; simpa using (List.mem_filter.1 hx).2
theorem own_touch {k : Nat} {L : List Chunk} : own k (touch k L) = own k L := by unfold touch; rw [own_app, own_oth, own_own]; rfl
theorem oth_app {k : Nat} {L M : List Chunk} : oth k (L ++ M) = oth k L ++ oth k M := by unfold oth; simp
theorem touch_touch {k : Nat} {L : List Chunk} : touch k (touch k L) = touch k L := by
  have h1 : oth k (touch k L) = oth k L := by unfold touch; rw [oth_app, oth_oth, oth_own, List.append_nil]
  show oth k (touch k L) ++ own k (touch k L) = _
  rw [h1, own_touch]; rfl
theorem data_touch {k : Nat} {L : List Chunk} : dataOf k (touch k L) = dataOf k L := by unfold dataOf; rw [own_touch]
theorem putE_cases {most room k n : Nat} {L : List Chunk} : putE most room k n L = 7 ∨ putE most room k n L = 0 := by unfold putE; split <;> (try split) <;> simp
theorem put_has {most room k : Nat} {b : List Int} {L : List Chunk} (h : putE most room k b.length L = 0) : hasL k (putL most room k b L) = true := by
  cases hh : hasL k L with
  | true => unfold putL; rw [hh]; show hasL k (touch k L) = true; rw [has_touch]; exact hh
  | false =>
    cases hf : fullL most room b.length L with
    | true => rw [putE_full hh hf] at h; cases h
    | false => exact (put_new hh hf).1
theorem putL_has {most room k : Nat} {b : List Int} {L : List Chunk} (h : hasL k L = true) : putL most room k b L = touch k L := by unfold putL; rw [h]; rfl
end Go.Proofs.Ytafeiankpckijaa
