/- The walk of place, in the document's store. -/
import Derived.Test.YtafeiankpckijaaRA
namespace Go.Proofs.Ytafeiankpckijaa
open Go.RowKit
set_option linter.unusedSimpArgs false
set_option linter.unusedVariables false
attribute [local go_sem ↓] Go.wp_at_zero Go.wp_at_succ
/-- Where a digest's chunk stands. -/
def placeOf (k : Nat) : List RC → Nat → Option Nat
  | [], _ => none
  | x :: R, i => if x.key = k then some i else placeOf k R (i + 1)
theorem placeOf_skip {k : Nat} : ∀ {l r : List RC} {i : Nat}, (∀ y ∈ l, y.key ≠ k) → placeOf k (l ++ r) i = placeOf k r (i + l.length)
  | [], r, i, _ => by simp
  | x :: l, r, i, h => by
    show (if x.key = k then some i else placeOf k (l ++ r) (i + 1)) = _
    rw [if_neg (h x (by simp)), placeOf_skip (fun y hy => h y (List.mem_cons_of_mem _ hy)), List.length_cons]
    congr 1; omega
def placeI (k : Nat) (R : List RC) : Int := match placeOf k R 0 with
  | some i => i
  | none => -1
set_option maxRecDepth 100000 in
set_option maxHeartbeats 8000000 in
theorem place_any (W w : World) (r most room k : Nat) (R : List RC) (v : Value) (G : Nat → Prop) (h : Ref W w r most room R v G) (hk : k < 65536) (hl : R.length ≤ 1000000) :
    Calls Try.prog 49 #[.pointer (some ⟨r, 0, none⟩), .agg (sumC k).toArray] w fun e w' => e = .returned (.int .i64 (placeI k R)) ∧ Only (fun _ => False) w w' := by
  obtain ⟨lo, cap, rfl⟩ := h.row
  have ho1 := (Only.refl (fun _ => False) w).alloc (.cells (sumC k).toArray 38)
  have h1 := h.only ho1
  have c2 := h1.c2
  have HB := Lib.hid (box_range w (sumC k) 38)
  have HI2 := Lib.hid (infoSum k)
  have H1 := Lib.hid (And.intro h1 ho1)
  have HK := Lib.hid hk
  clear h h1 ho1 hk
  go_enter Try.func49, Try.ntmps49
  go_wp2_with fail
  go_loopg [11] R.length (fun gg v wl => ∃ i : Nat, v = .int .i64 i ∧ Hid (i + gg = R.length ∧ Only (fun _ => False) (w.alloc (.cells (sumC k).toArray 38)) wl ∧ ∀ y ∈ R.take i, y.key ≠ k))
  case atStart => exact ⟨0, rfl, Lib.hid ⟨by omega, Only.refl _ _, by simp⟩⟩
  case round =>
    obtain ⟨i, rfl, hh⟩ := hrel
    obtain ⟨hig, ho, hne⟩ := hh.out
    clear hh c2
    by_cases hi : i < R.length
    · have hi' : (i : Int) < (R.length : Int) := by omega
      have b0 : (0 : Int) ≤ i := by omega
      have h2 := H1.out.1.only ho
      have hx := List.getElem?_eq_getElem hi
      obtain ⟨g, cap', hv, hr⟩ := h2.at hx
      simp only [Value.slice.injEq] at hv
      obtain ⟨rfl, -, rfl⟩ := hv
      have hkx := h2.keys _ (List.getElem_mem hi)
      have HX := Lib.hid (And.intro (List.take_succ_eq_append_getElem hi) (show R = R.take i ++ R[i] :: R.drop (i + 1) by rw [← List.drop_eq_getElem_cons hi, List.take_append_drop]))
      generalize R[i] = x at *
      have HI1 := Lib.hid (infoSum x.key)
      have hod := ho.trans (Only.refl (fun _ => False) wr).drew
      have x2 : wr.drew.cell? ⟨r, 2, none⟩ = some (.slice (some ⟨g, 0, none⟩) R.length cap) := h2.c2
      have xR : wr.drew.rangeAt g (i * 34) (sumC x.key) := RC.head hr
      have xB : wr.drew.rangeAt w.heap.size 0 (sumC k) := fun j u hj => hod.cell (HB.out j u hj) (fun h => h)
      have HN := Lib.hid hne
      have HOD := Lib.hid (H1.out.2.trans hod)
      have HOE := Lib.hid hod
      have heq : ∀ w, (Op.equalIn 10000 38 (.agg (sumC x.key).toArray) (.agg (sumC k).toArray)).run Try.prog w = .ok (decide (x.key = k)) w := fun w => equalIn_sums w hkx HK.out
      clear h2 hx hr hkx ho hod hne
      by_cases ck : x.key = k
      · rw [decide_eq_true ck] at heq
        have HCK := Lib.hid ck; clear ck
        go_wp2_with fail
        refine wp_region_noPanic ?_
        refine wp_region_held_drew (S := (fun w' => w'.cell? ⟨r, 2, none⟩ = some (.slice (some ⟨g, 0, none⟩) R.length cap) ∧ w'.rangeAt g (i * 34) (sumC x.key) ∧ w'.rangeAt w.heap.size 0 (sumC k))) (by kernel_rfl) (⟨x2, xR, xB⟩) (fun hHeld => ?_)
        refine wpAnyH_take (i := 0) (v := ?_) rfl (by kernel_rfl) (by kernel_rfl) (by kernel_rfl) (fun _ _ _ h => h) (Or.inl ⟨by rfl, ?_⟩) (by assumption) ?_
        rotate_left
        · ((intro w hSw); (first | (go_simp; done) | (go_simp; with_reducible rfl)))
        (try simp only [Act.put, List.setIfInBounds_toArray, List.set_cons_zero, List.set_cons_succ, List.getElem_toArray, List.getElem_cons_succ, List.getElem_cons_zero])
        refine wpAnyH_take (i := 1) (v := ?_) rfl (by kernel_rfl) (by kernel_rfl) (by kernel_rfl) (fun _ _ _ h => h) (Or.inl ⟨by rfl, ?_⟩) (by assumption) ?_
        rotate_left
        · ((intro w hSw); (first | (go_simp; done) | (go_simp; with_reducible rfl)))
        (try simp only [Act.put, List.setIfInBounds_toArray, List.set_cons_zero, List.set_cons_succ, List.getElem_toArray, List.getElem_cons_succ, List.getElem_cons_zero])
        refine wpAnyH_take (i := 2) (v := ?_) rfl (by kernel_rfl) (by kernel_rfl) (by kernel_rfl) (fun _ _ _ h => h) (Or.inl ⟨by rfl, ?_⟩) (by assumption) ?_
        rotate_left
        · ((intro w hSw); (first | (go_simp; done) | (go_simp; with_reducible rfl)))
        (try simp only [Act.put, List.setIfInBounds_toArray, List.set_cons_zero, List.set_cons_succ, List.getElem_toArray, List.getElem_cons_succ, List.getElem_cons_zero])
        refine wpAnyH_take (i := 3) (v := ?_) rfl (by kernel_rfl) (by kernel_rfl) (by kernel_rfl) (fun _ _ _ h => h) (Or.inl ⟨by rfl, ?_⟩) (by assumption) ?_
        rotate_left
        · ((intro w hSw); (first | (go_simp; done) | (go_simp; with_reducible rfl)))
        (try simp only [Act.put, List.setIfInBounds_toArray, List.set_cons_zero, List.set_cons_succ, List.getElem_toArray, List.getElem_cons_succ, List.getElem_cons_zero])
        refine wpAnyH_take (i := 4) (v := ?_) rfl (by kernel_rfl) (by kernel_rfl) (by kernel_rfl) (fun _ _ _ h => h) (Or.inl ⟨by rfl, ?_⟩) (by assumption) ?_
        rotate_left
        · ((intro w hSw); (first | (go_simp; done) | (go_simp; with_reducible rfl)))
        (try simp only [Act.put, List.setIfInBounds_toArray, List.set_cons_zero, List.set_cons_succ, List.getElem_toArray, List.getElem_cons_succ, List.getElem_cons_zero])
        refine wpAnyH_take (i := 5) (v := ?_) rfl (by kernel_rfl) (by kernel_rfl) (by kernel_rfl) (fun _ _ _ h => h) (Or.inl ⟨by rfl, ?_⟩) (by assumption) ?_
        rotate_left
        · ((intro w hSw); (first | (go_simp; done) | (go_simp; with_reducible rfl)))
        (try simp only [Act.put, List.setIfInBounds_toArray, List.set_cons_zero, List.set_cons_succ, List.getElem_toArray, List.getElem_cons_succ, List.getElem_cons_zero])
        refine wpAnyH_take (i := 6) (v := ?_) rfl (by kernel_rfl) (by kernel_rfl) (by kernel_rfl) (fun _ _ _ h => h) (Or.inl ⟨by rfl, ?_⟩) (by assumption) ?_
        rotate_left
        · ((intro w hSw); (first | (go_simp; done) | (go_simp; with_reducible rfl)))
        (try simp only [Act.put, List.setIfInBounds_toArray, List.set_cons_zero, List.set_cons_succ, List.getElem_toArray, List.getElem_cons_succ, List.getElem_cons_zero])
        refine wpAnyH_take (i := 7) (v := .agg (sumC x.key).toArray) rfl (by kernel_rfl) (by kernel_rfl) (by kernel_rfl) (fun _ _ _ h => h) (yieldsIf_load_mid (by rfl) 38 _ rfl g (i * 34) (by rfl) (sumC x.key) _ (fun w h => h.2.1) under38 rfl HI1.out) (by assumption) ?_
        (try simp only [Act.put, List.setIfInBounds_toArray, List.set_cons_zero, List.set_cons_succ, List.getElem_toArray, List.getElem_cons_succ, List.getElem_cons_zero])
        refine wpAnyH_take (i := 8) (v := .agg (sumC k).toArray) rfl (by kernel_rfl) (by kernel_rfl) (by kernel_rfl) (fun _ _ _ h => h) (yieldsIf_load_mid (by rfl) 38 _ rfl w.heap.size 0 (by rfl) (sumC k) _ (fun w h => h.2.2) under38 rfl HI2.out) (by assumption) ?_
        (try simp only [Act.put, List.setIfInBounds_toArray, List.set_cons_zero, List.set_cons_succ, List.getElem_toArray, List.getElem_cons_succ, List.getElem_cons_zero])
        refine wpAnyH_take (i := 9) (v := ?_) rfl (by kernel_rfl) (by kernel_rfl) (by kernel_rfl) (fun _ _ _ h => h) (Or.inl ⟨by rfl, ?_⟩) (by assumption) ?_
        rotate_left
        · ((intro w hSw); (first | (go_simp; done) | (go_simp; with_reducible rfl)))
        (try simp only [Act.put, List.setIfInBounds_toArray, List.set_cons_zero, List.set_cons_succ, List.getElem_toArray, List.getElem_cons_succ, List.getElem_cons_zero])
        refine wpAnyH_done (by kernel_rfl) ?_ _
        refine NoPanic.normal ?_
        clear heq x2 xR xB
        go_wp2
        go_ret
        refine ⟨?_, HOD.out⟩
        have hp : placeI k R = (i : Int) := by
          unfold placeI
          have e : placeOf k R 0 = some i := by
            rw [HX.out.2, placeOf_skip HN.out]
            show (if x.key = k then _ else _) = _
            rw [if_pos HCK.out, List.length_take]; congr 1; omega
          rw [e]
        rw [hp]; rfl
      · rw [decide_eq_false ck] at heq
        have HCK := Lib.hid ck; clear ck
        go_wp2_with fail
        refine wp_region_noPanic ?_
        refine wp_region_held_drew (S := (fun w' => w'.cell? ⟨r, 2, none⟩ = some (.slice (some ⟨g, 0, none⟩) R.length cap) ∧ w'.rangeAt g (i * 34) (sumC x.key) ∧ w'.rangeAt w.heap.size 0 (sumC k))) (by kernel_rfl) (⟨x2, xR, xB⟩) (fun hHeld => ?_)
        refine wpAnyH_take (i := 0) (v := ?_) rfl (by kernel_rfl) (by kernel_rfl) (by kernel_rfl) (fun _ _ _ h => h) (Or.inl ⟨by rfl, ?_⟩) (by assumption) ?_
        rotate_left
        · ((intro w hSw); (first | (go_simp; done) | (go_simp; with_reducible rfl)))
        (try simp only [Act.put, List.setIfInBounds_toArray, List.set_cons_zero, List.set_cons_succ, List.getElem_toArray, List.getElem_cons_succ, List.getElem_cons_zero])
        refine wpAnyH_take (i := 1) (v := ?_) rfl (by kernel_rfl) (by kernel_rfl) (by kernel_rfl) (fun _ _ _ h => h) (Or.inl ⟨by rfl, ?_⟩) (by assumption) ?_
        rotate_left
        · ((intro w hSw); (first | (go_simp; done) | (go_simp; with_reducible rfl)))
        (try simp only [Act.put, List.setIfInBounds_toArray, List.set_cons_zero, List.set_cons_succ, List.getElem_toArray, List.getElem_cons_succ, List.getElem_cons_zero])
        refine wpAnyH_take (i := 2) (v := ?_) rfl (by kernel_rfl) (by kernel_rfl) (by kernel_rfl) (fun _ _ _ h => h) (Or.inl ⟨by rfl, ?_⟩) (by assumption) ?_
        rotate_left
        · ((intro w hSw); (first | (go_simp; done) | (go_simp; with_reducible rfl)))
        (try simp only [Act.put, List.setIfInBounds_toArray, List.set_cons_zero, List.set_cons_succ, List.getElem_toArray, List.getElem_cons_succ, List.getElem_cons_zero])
        refine wpAnyH_take (i := 3) (v := ?_) rfl (by kernel_rfl) (by kernel_rfl) (by kernel_rfl) (fun _ _ _ h => h) (Or.inl ⟨by rfl, ?_⟩) (by assumption) ?_
        rotate_left
        · ((intro w hSw); (first | (go_simp; done) | (go_simp; with_reducible rfl)))
        (try simp only [Act.put, List.setIfInBounds_toArray, List.set_cons_zero, List.set_cons_succ, List.getElem_toArray, List.getElem_cons_succ, List.getElem_cons_zero])
        refine wpAnyH_take (i := 4) (v := ?_) rfl (by kernel_rfl) (by kernel_rfl) (by kernel_rfl) (fun _ _ _ h => h) (Or.inl ⟨by rfl, ?_⟩) (by assumption) ?_
        rotate_left
        · ((intro w hSw); (first | (go_simp; done) | (go_simp; with_reducible rfl)))
        (try simp only [Act.put, List.setIfInBounds_toArray, List.set_cons_zero, List.set_cons_succ, List.getElem_toArray, List.getElem_cons_succ, List.getElem_cons_zero])
        refine wpAnyH_take (i := 5) (v := ?_) rfl (by kernel_rfl) (by kernel_rfl) (by kernel_rfl) (fun _ _ _ h => h) (Or.inl ⟨by rfl, ?_⟩) (by assumption) ?_
        rotate_left
        · ((intro w hSw); (first | (go_simp; done) | (go_simp; with_reducible rfl)))
        (try simp only [Act.put, List.setIfInBounds_toArray, List.set_cons_zero, List.set_cons_succ, List.getElem_toArray, List.getElem_cons_succ, List.getElem_cons_zero])
        refine wpAnyH_take (i := 6) (v := ?_) rfl (by kernel_rfl) (by kernel_rfl) (by kernel_rfl) (fun _ _ _ h => h) (Or.inl ⟨by rfl, ?_⟩) (by assumption) ?_
        rotate_left
        · ((intro w hSw); (first | (go_simp; done) | (go_simp; with_reducible rfl)))
        (try simp only [Act.put, List.setIfInBounds_toArray, List.set_cons_zero, List.set_cons_succ, List.getElem_toArray, List.getElem_cons_succ, List.getElem_cons_zero])
        refine wpAnyH_take (i := 7) (v := .agg (sumC x.key).toArray) rfl (by kernel_rfl) (by kernel_rfl) (by kernel_rfl) (fun _ _ _ h => h) (yieldsIf_load_mid (by rfl) 38 _ rfl g (i * 34) (by rfl) (sumC x.key) _ (fun w h => h.2.1) under38 rfl HI1.out) (by assumption) ?_
        (try simp only [Act.put, List.setIfInBounds_toArray, List.set_cons_zero, List.set_cons_succ, List.getElem_toArray, List.getElem_cons_succ, List.getElem_cons_zero])
        refine wpAnyH_take (i := 8) (v := .agg (sumC k).toArray) rfl (by kernel_rfl) (by kernel_rfl) (by kernel_rfl) (fun _ _ _ h => h) (yieldsIf_load_mid (by rfl) 38 _ rfl w.heap.size 0 (by rfl) (sumC k) _ (fun w h => h.2.2) under38 rfl HI2.out) (by assumption) ?_
        (try simp only [Act.put, List.setIfInBounds_toArray, List.set_cons_zero, List.set_cons_succ, List.getElem_toArray, List.getElem_cons_succ, List.getElem_cons_zero])
        refine wpAnyH_take (i := 9) (v := ?_) rfl (by kernel_rfl) (by kernel_rfl) (by kernel_rfl) (fun _ _ _ h => h) (Or.inl ⟨by rfl, ?_⟩) (by assumption) ?_
        rotate_left
        · ((intro w hSw); (first | (go_simp; done) | (go_simp; with_reducible rfl)))
        (try simp only [Act.put, List.setIfInBounds_toArray, List.set_cons_zero, List.set_cons_succ, List.getElem_toArray, List.getElem_cons_succ, List.getElem_cons_zero])
        refine wpAnyH_done (by kernel_rfl) ?_ _
        refine NoPanic.normal ?_
        clear heq x2 xR xB
        go_wp2
        go_roundg (R.length - (i + 1))
        case measure => omega
        case rel => exact ⟨i + 1, by go_num, Lib.hid ⟨by omega, HOE.out, by
          rw [HX.out.1]; intro y hy
          rcases List.mem_append.1 hy with hy | hy
          · exact HN.out y hy
          · simp at hy; subst hy; exact HCK.out⟩⟩
    · have hi' : ¬ (i : Int) < (R.length : Int) := by omega
      have HOD := Lib.hid (H1.out.2.trans ho)
      have hp : placeI k R = -1 := by
        unfold placeI
        have e := placeOf_skip (k := k) (l := R.take i) (r := R.drop i) (i := 0) hne
        rw [List.take_append_drop, show R.drop i = [] from List.drop_eq_nil_of_le (by omega)] at e
        rw [e]; rfl
      have HP := Lib.hid hp
      clear ho hne hp
      go_wp2
      go_ret
      exact ⟨by rw [HP.out]; rfl, HOD.out⟩
end Go.Proofs.Ytafeiankpckijaa
