/- The walks of Has and Evict, in the document's store. -/
import Derived.Test.YtafeiankpckijaaRD
namespace Go.Proofs.Ytafeiankpckijaa
open Go.RowKit
set_option linter.unusedSimpArgs false
set_option linter.unusedVariables false
attribute [local go_sem ↓] Go.wp_at_zero Go.wp_at_succ
theorem Ref.low_base {W w : World} {r most room : Nat} {R : List RC} {v : Value} {G : Nat → Prop} (h : Ref W w r most room R v G) : W.heap.size ≤ w.heap.size := Nat.le_of_lt (Nat.lt_of_le_of_lt (h.low r h.rG).1 (h.low r h.rG).2)
theorem grow_of {F : Nat → Prop} {w w2 w3 : World} {G : Nat → Prop} (ho : Only F w w2) (hs : w2.heap.size ≤ w3.heap.size) : ∀ y, grow G w2 w3 y → grow G w w3 y := fun y hy => by
  rcases hy with hy | hy
  · exact Or.inl hy
  · exact Or.inr ⟨Nat.le_trans ho.size hy.1, hy.2⟩
theorem oth_none {k : Nat} {L : List Chunk} (h : hasL k L = false) : oth k L = L := by
  unfold oth; rw [List.filter_eq_self]
  intro x hx
  rw [has_iff'] at h
  have : x.key ≠ k := fun e => h (List.mem_map.2 ⟨x, hx, e⟩)
  simpa using this
/-- The document's store, as a list of chunks. -/
def RefL (W w : World) (r most room : Nat) (L : List Chunk) (G : Nat → Prop) : Prop := ∃ R v, R.map RC.ch = L ∧ Ref W w r most room R v G
theorem RefL.beside {W w w' : World} {r most room : Nat} {L : List Chunk} {G : Nat → Prop} (h : RefL W w r most room L G) (hb : Beside G w w') : RefL W w' r most room L G := by
  obtain ⟨R, v, h1, h2⟩ := h; exact ⟨R, v, h1, h2.beside hb⟩
theorem RefL.only {W w w' : World} {r most room : Nat} {L : List Chunk} {G : Nat → Prop} (h : RefL W w r most room L G) (ho : Only (fun _ => False) w w') : RefL W w' r most room L G := h.beside (Beside.of ho)
theorem place_cases (k : Nat) : ∀ (R : List RC), (∃ l x t, R = l ++ x :: t ∧ x.key = k ∧ (∀ y ∈ l, y.key ≠ k) ∧ placeI k R = l.length) ∨ ((∀ y ∈ R, y.key ≠ k) ∧ placeI k R = -1) := fun R => by
  by_cases h : ∃ y ∈ R, y.key = k
  · left
    have hs : ∀ R : List RC, (∃ y ∈ R, y.key = k) → ∃ l x t, R = l ++ x :: t ∧ x.key = k ∧ ∀ y ∈ l, y.key ≠ k := by
      intro R
      induction R with
      | nil => rintro ⟨y, hy, _⟩; cases hy
      | cons z R ih =>
        intro h
        by_cases hz : z.key = k
        · exact ⟨[], z, R, rfl, hz, by simp⟩
        · obtain ⟨y, hy, e⟩ := h
          rcases List.mem_cons.1 hy with rfl | hy
          · exact absurd e hz
          · obtain ⟨l, x, t, h1, h2, h3⟩ := ih ⟨y, hy, e⟩
            exact ⟨z :: l, x, t, by rw [h1]; rfl, h2, fun q hq => by rcases List.mem_cons.1 hq with rfl | hq; exact hz; exact h3 q hq⟩
    obtain ⟨l, x, t, h1, h2, h3⟩ := hs R h
    refine ⟨l, x, t, h1, h2, h3, ?_⟩
    unfold placeI
    have e : placeOf k R 0 = some l.length := by
      rw [h1, placeOf_skip h3]
      show (if x.key = k then _ else _) = _
      rw [if_pos h2]; simp
    rw [e]
  · right
    have hn : ∀ y ∈ R, y.key ≠ k := fun y hy e => h ⟨y, hy, e⟩
    refine ⟨hn, ?_⟩
    unfold placeI
    have e := placeOf_skip (k := k) (l := R) (r := []) (i := 0) hn
    rw [List.append_nil] at e
    rw [e]; rfl
/-- A digest that is there, among chunks. -/
theorem ch_split {k : Nat} {l t : List RC} {x : RC} (hx : x.key = k) (hl : ∀ y ∈ l, y.key ≠ k) (hnd : (((l ++ x :: t).map RC.ch).map (·.key)).Nodup) :
    hasL k ((l ++ x :: t).map RC.ch) = true ∧ oth k ((l ++ x :: t).map RC.ch) = (l ++ t).map RC.ch ∧ own k ((l ++ x :: t).map RC.ch) = [x.ch] := by
  have h1 : ∀ y ∈ l.map RC.ch, y.key ≠ k := fun y hy => by obtain ⟨z, hz, rfl⟩ := List.mem_map.1 hy; exact hl z hz
  have h2 : ∀ y ∈ t.map RC.ch, y.key ≠ k := fun y hy e => by
    rw [List.map_append, List.map_cons, List.map_append, List.map_cons, List.nodup_append, List.nodup_cons] at hnd
    refine hnd.2.1.1 (List.mem_map.2 ⟨y, hy, ?_⟩)
    rw [e]; exact hx.symm
  rw [List.map_append, List.map_cons]
  refine ⟨has_split (X := x.ch) hx, ?_, split_own (X := x.ch) hx h1 h2⟩
  rw [split_oth (X := x.ch) hx h1 h2, List.map_append]
theorem ch_none {k : Nat} {R : List RC} (h : ∀ y ∈ R, y.key ≠ k) : hasL k (R.map RC.ch) = false := by
  rw [has_iff']; intro hm
  obtain ⟨c, hc, e⟩ := List.mem_map.1 hm
  obtain ⟨y, hy, rfl⟩ := List.mem_map.1 hc
  exact h y hy e
theorem placeI_has {k : Nat} {R : List RC} : (hasL k (R.map RC.ch) = true ∧ (0 : Int) ≤ placeI k R) ∨ (hasL k (R.map RC.ch) = false ∧ placeI k R = -1) := by
  rcases place_cases k R with ⟨l, x, t, h1, h2, h3, h4⟩ | ⟨h1, h2⟩
  · left
    exact ⟨by rw [h1, has_iff]; exact List.mem_map.2 ⟨x.ch, by simp, h2⟩, by rw [h4]; omega⟩
  · exact Or.inr ⟨ch_none h1, h2⟩
theorem rlen {W w : World} {r most room : Nat} {R : List RC} {v : Value} {G : Nat → Prop} {L : List Chunk} (h : R.map RC.ch = L) : R.length = L.length := by rw [← h, List.length_map]
set_option maxRecDepth 100000 in
set_option maxHeartbeats 4000000 in
theorem rhas_any (W w : World) (r most room k : Nat) (L : List Chunk) (G : Nat → Prop) (h : RefL W w r most room L G) (hk : k < 65536) (hl : L.length ≤ 64) :
    Calls Try.prog 40 #[.pointer (some ⟨r, 0, none⟩), Sum_ k] w fun e w' => e = .returned (.bool (hasL k L)) ∧ Only (fun _ => False) w w' := by
  obtain ⟨R, v, rfl, hR⟩ := h
  have ho1 := (Only.refl (fun _ => False) w).alloc (.cells (sumC k).toArray 38)
  have KP := Lib.hid (place_any W _ r most room k R v G (hR.only ho1) hk (by rw [List.length_map] at hl; omega))
  have HB := Lib.hid (box_range w (sumC k) 38)
  have HI := Lib.hid (infoSum k)
  have HO := Lib.hid ho1
  clear hR ho1
  unfold Sum_
  go_enter Try.func40, Try.ntmps40
  go_wp2_with (first | ((with_reducible refine gate_load 38 rfl ?_); (refine wpList_load_mid rfl 38 _ rfl w.heap.size 0 (by rfl) (sumC k) _ HB.out under38 rfl HI.out ?_)) | fail)
  refine KP.out.mono ?_
  rintro e w2 ⟨rfl, ho2⟩
  have HO2 := Lib.hid (HO.out.trans ho2)
  clear ho2 KP
  rcases placeI_has (k := k) (R := R) with ⟨h1, h2⟩ | ⟨h1, h2⟩
  · have H1 := Lib.hid h1
    have H2 := Lib.hid h2
    clear h1
    go_wp2
    go_ret
    refine ⟨?_, HO2.out⟩
    rw [H1.out]; simp [H2.out]
  · have H1 := Lib.hid h1
    rw [h2]
    clear h1 h2
    go_wp2
    go_ret
    refine ⟨?_, HO2.out⟩
    rw [H1.out]; rfl
set_option maxRecDepth 100000 in
set_option maxHeartbeats 4000000 in
theorem revict_any (W w : World) (r most room k : Nat) (L : List Chunk) (G : Nat → Prop) (h : RefL W w r most room L G) (hk : k < 65536) (hl : L.length ≤ 64) (hnd : (L.map (·.key)).Nodup) :
    Calls Try.prog 34 #[.pointer (some ⟨r, 0, none⟩), Sum_ k] w fun e w' => e = .returned (.int .i64 (getE k L)) ∧ RefL W w' r most room (oth k L) (grow G w w') ∧ Only (fun y => y = r) w w' := by
  obtain ⟨R, v, rfl, hR⟩ := h
  have ho1 := (Only.refl (fun _ => False) w).alloc (.cells (sumC k).toArray 38)
  have KP := Lib.hid (place_any W _ r most room k R v G (hR.only ho1) hk (by rw [List.length_map] at hl; omega))
  have HB := Lib.hid (box_range w (sumC k) 38)
  have HI := Lib.hid (infoSum k)
  have HO := Lib.hid ho1
  have HR := Lib.hid hR
  clear hR ho1
  unfold Sum_
  go_enter Try.func34, Try.ntmps34
  go_wp2_with (first | ((with_reducible refine gate_load 38 rfl ?_); (refine wpList_load_mid rfl 38 _ rfl w.heap.size 0 (by rfl) (sumC k) _ HB.out under38 rfl HI.out ?_)) | fail)
  refine KP.out.mono ?_
  rintro e w2 ⟨rfl, ho2⟩
  have HO2 := Lib.hid (HO.out.trans ho2)
  clear ho2 KP
  rcases place_cases k R with ⟨l, x, t, rfl, h2, h3, h4⟩ | ⟨h1, h2⟩
  · obtain ⟨c1, c2, c3⟩ := ch_split h2 h3 hnd
    rw [h4]
    have KD := Lib.hid (drop_any W w2 r most room l t x v G (HR.out.only HO2.out) (by rw [List.length_map] at hl; omega))
    have HC := Lib.hid (And.intro c1 c2)
    clear h2 h3 h4 c1 c2 c3
    have b0 : (0 : Int) ≤ (l.length : Int) := by omega
    go_wp2_with fail
    refine KD.out.mono ?_
    rintro e w3 ⟨rfl, v', hr3, ho3, -, -⟩
    have HF := Lib.hid (And.intro hr3 ho3)
    clear KD hr3 ho3
    go_wp2
    go_ret
    have hgo := grow_of HO2.out (HF.out.2.size) (G := G)
    refine ⟨by rw [getE_has HC.out.1]; rfl, ⟨_, v', HC.out.2.symm, HF.out.1.wide hgo (fun y hy => ?_)⟩, (Only.mono HO2.out (fun _ _ h => h.elim)).trans HF.out.2⟩
    rcases hy with hy | hy
    · exact HF.out.1.low y (Or.inl hy)
    · exact ⟨Nat.le_trans (HR.out.low_base) hy.1, hy.2⟩
  · rw [h2]
    have HN := Lib.hid (ch_none h1)
    clear h1 h2
    go_wp2
    go_ret
    refine ⟨by rw [getE_not HN.out]; rfl, ?_, Only.mono HO2.out (fun _ _ h => h.elim)⟩
    rw [show oth k (R.map RC.ch) = R.map RC.ch from oth_none HN.out]
    exact ⟨R, v, rfl, (HR.out.only HO2.out).wide (fun y hy => Or.inl hy) (fun y hy => by
      rcases hy with hy | hy
      · exact (HR.out.only HO2.out).low y hy
      · exact ⟨Nat.le_trans (HR.out.low_base) hy.1, hy.2⟩)⟩
end Go.Proofs.Ytafeiankpckijaa
