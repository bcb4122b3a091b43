/- A new store is an empty list; the walk of 'made'. -/
import Derived.Test.YtafeiankpckijaaZ
namespace Go.Proofs.Ytafeiankpckijaa
open Go.RowKit
set_option linter.unusedSimpArgs false
set_option linter.unusedVariables false
attribute [local go_sem ↓] Go.wp_at_zero Go.wp_at_succ
theorem rep_new {w w' : World} {n r : Nat} {vs vf : Value} (h : NewAt w w' n r n n vs vf) (h1 : 1 ≤ n) (h2 : n ≤ 64) (h3 : 1 ≤ r) (h4 : r ≤ 8192) :
    Rep w' (w.heap.size + 1) (fun y => w.heap.size ≤ y ∧ y < w'.heap.size) n r 0 [] := by
  obtain ⟨m, rfl⟩ : ∃ m, n = m + 1 := ⟨n - 1, by omega⟩
  have hlt := h.lt
  obtain ⟨gs, caps, rfl⟩ := own_slice h.rs
  obtain ⟨gf, capf, rfl⟩ := own_slice h.rf
  have hrs := h.rs
  have hrf := h.rf
  have hne := owns_ne h.rs h.rf (by decide) (k := gs) rfl
  obtain ⟨-, hs | ⟨g, cap, cur, hv, hB, hg, s1, s2, s3, s4⟩⟩ := hrs
  · cases hs.2
  simp only [Value.slice.injEq, Option.some.injEq, Addr.mk.injEq, and_true, true_and] at hv
  obtain ⟨rfl, rfl⟩ := hv
  obtain ⟨-, hs | ⟨g, cap, curf, hv, hB', hg', t1, t2, t3, t4⟩⟩ := hrf
  · cases hs.2
  simp only [Value.slice.injEq, Option.some.injEq, Addr.mk.injEq, and_true, true_and] at hv
  obtain ⟨rfl, rfl⟩ := hv
  have hlts : gs < w'.heap.size := (Array.getElem?_eq_some_iff.1 hg).1
  have hltf : gf < w'.heap.size := (Array.getElem?_eq_some_iff.1 hg').1
  refine ⟨⟨{ n := m + 1, gs := gs, caps := caps, gf := gf, capf := capf, nf := m + 1, gm := w.heap.size, key := fun _ => zeroKey, da := fun _ => none, dl := fun _ => 0, dc := fun _ => 0, pins := fun _ => 0, prev := fun _ => 0, next := fun _ => 0, free := fun j => m + 1 - 1 - j, old := -1, young := -1, es := #[], clock := 0, most := ((m + 1 : Nat) : Int), room := (r : Int), bytes := 0 }, [], [], fun _ => ⟨0, [], 0⟩, ?_, rfl, rfl, rfl⟩, by simp⟩
  refine ⟨?_, ⟨rfl, trivial, rfl, trivial, List.nodup_nil, by simp⟩, rfl, rfl, h2, h1, ⟨by show (1 : Int) ≤ (r : Int); omega, by show (r : Int) ≤ 8192; omega⟩, by simp, by simp, by simp, rfl, ?_, ?_, rfl, t1, by simp, by simp, by simp, by simp, rfl, ?_, ?_, fun y hy => hy.2⟩
  · refine ⟨by rw [h.hdr]; rfl, ⟨cur, hg, s3⟩, s1, fun i hi => by simp [zeroKey], ?_, ⟨curf, hg', by simpa using t3⟩, t1, t2, ?_, h.map, ?_, ?_, ?_, ?_⟩
    · intro i hi j v hj
      have hzl : (zeroSlot).length = 36 := zeroSlot_len
      have hj' : zeroSlot[j]? = some v := hj
      have hjl : j < 36 := by rw [← hzl]; exact (List.getElem?_eq_some_iff.1 hj').1
      have hi' : i < m + 1 := hi
      have hin : (i + 1) * 36 ≤ (m + 1) * 36 := Nat.mul_le_mul_right _ (by omega)
      have e := flat_get 36 (fun _ : Nat => zeroSlot) (List.range (m + 1)) i j (fun _ _ => hzl) hjl
      rw [← s4, List.getElem?_take_of_lt (by omega)] at e
      rw [cell_of_row _ _ _ _ _ _ hg, show cur[i * 36 + j]? = cur.toList[i * 36 + j]? by simp, e]
      rw [List.getElem?_range hi']
      exact hj'
    · intro i hi
      have hi' : i < m + 1 := hi
      have e : (curf.toList.take ((m + 1) * 1))[i]? = _ := congrArg (·[i]?) t4
      rw [List.getElem?_take_of_lt (by omega)] at e
      rw [cell_of_row _ _ _ _ _ _ hg', show curf[i]? = curf.toList[i]? by simp, e]
      rw [List.getElem?_map, List.getElem?_range hi']
      simp only [Option.map_some, Option.some.injEq, Value.int.injEq, true_and]
      omega
    · intro i hi v hv; exact zeroSlot_one v hv
    · show w.heap.size + 1 ≠ gs; omega
    · show w.heap.size + 1 ≠ gf; omega
    · show gs ≠ gf; exact fun e => hne (by rw [e]; rfl)
  · intro i j hij hj
    have hj' : j < m + 1 := hj
    show m + 1 - 1 - i ≠ m + 1 - 1 - j; omega
  · intro i hi
    have hi' : i < m + 1 := hi
    exact ⟨by show m + 1 - 1 - i < m + 1; omega, by simp⟩
  · show (0 : Int) ≤ (r : Int); omega
  · intro y hy
    have hy' : y = w.heap.size + 1 ∨ y = gs ∨ y = gf ∨ y = w.heap.size := hy
    exact ⟨by omega, by omega⟩
/-- A store of the call's own: all its blocks are new. -/
structure Mine (w w' : World) (a most room p : Nat) (L : List Chunk) : Prop where
  rep : ∃ F, Rep w' a F most room p L ∧ ∀ y, F y → w.heap.size ≤ y
  only : Only (fun _ => False) w w'
theorem new_mine (w : World) (n r : Nat) (h1 : 1 ≤ n) (h2 : n ≤ 64) (h3 : 1 ≤ r) (h4 : r ≤ 8192) :
    Calls Try.prog 26 #[.int .i64 n, .int .i64 r] w fun e w' => e = .returned (.tuple #[Ptr (w.heap.size + 1), .int .i64 0]) ∧ Mine w w' (w.heap.size + 1) n r 0 [] := by
  refine (new_any w n r h1 h2 h3 h4).mono ?_
  rintro e w' ⟨rfl, vs, vf, h⟩
  exact ⟨rfl, ⟨_, rep_new h h1 h2 h3 h4, fun y hy => hy.1⟩, h.only⟩
theorem Mine.step {w w1 w' : World} {a most room p q : Nat} {L L' : List Chunk} {F : Nat → Prop} (h : Only (fun _ => False) w w1) (hF : ∀ y, F y → w.heap.size ≤ y) (ht : Then w1 a F most room q L' w') : Mine w w' a most room q L' := by
  obtain ⟨F', h1, h2⟩ := ht.rep
  refine ⟨⟨F', h1, fun y hy => ?_⟩, h.trans' ht.only (fun i hi hf => by have := hF i hf; omega)⟩
  rcases h2.new y hy with hy | hy
  · exact hF y hy
  · exact Nat.le_trans h.size hy
def runL (most room : Nat) : List D → List Chunk → List Chunk
  | [], L => L
  | d :: ds, L => runL most room ds (doL most room d L)
theorem runL_snoc {most room : Nat} {d : D} : ∀ {l : List D} {L : List Chunk}, runL most room (l ++ [d]) L = doL most room d (runL most room l L)
  | [], _ => rfl
  | x :: l, L => runL_snoc (l := l)
end Go.Proofs.Ytafeiankpckijaa
