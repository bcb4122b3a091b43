/- The walks of held, loose, remove. -/
import Derived.Test.YtafeiankpckijaaD
import Derived.Test.YtafeiankpckijaaE
import Derived.Deep.LoopGhost
namespace Go.Proofs.Ytafeiankpckijaa
open Go.RowKit
set_option linter.unusedSimpArgs false
set_option linter.unusedVariables false
attribute [local go_sem ↓] Go.wp_at_zero Go.wp_at_succ
theorem headI_nil : headI [] = -1 := rfl
theorem headI_cons (i : Nat) (r : List Nat) : headI (i :: r) = i := rfl
/-- The one that rested longest of those that are not held. -/
def looseI (c : C) (ord : List Nat) : Int := headI (ord.dropWhile fun j => decide (0 < c.pins j))
theorem dropWhile_app (p : Nat → Bool) : ∀ (l r : List Nat), (∀ j ∈ l, p j = true) → (l ++ r).dropWhile p = r.dropWhile p
  | [], _, _ => rfl
  | x :: l, r, h => by simp [List.dropWhile_cons, h x (by simp), dropWhile_app p l r (fun j hj => h j (by simp [hj]))]
set_option maxHeartbeats 1000000 in
theorem loose_any (w : World) (a : Nat) (c : C) (ord : List Nat) (h : Mem w a c) (hl : Linked c ord) :
    Calls Try.prog 48 #[.pointer (some ⟨a, 0, none⟩)] w fun e w' => e = .returned (.int .i64 (looseI c ord)) ∧ w = w' := by
  have h0 := h.cslots
  have h2 := h.cold
  rw [hl.old] at h2
  have H := Lib.hid h; clear h
  have HL := Lib.hid hl; clear hl
  go_enter Try.func48, Try.ntmps48
  go_wp2
  go_loopg [3] ord.length (fun k i w' => w' = w ∧ ∃ l r : List Nat, i = .int .i64 (headI r) ∧ r.length = k ∧ Hid (ord = l ++ r ∧ ∀ j ∈ l, 0 < c.pins j))
  case atStart => exact ⟨rfl, [], ord, rfl, rfl, Lib.hid ⟨rfl, fun j hj => by cases hj⟩⟩
  case round =>
    obtain ⟨rfl, l, r, rfl, rfl, hlr⟩ := hrel
    clear h2
    cases r with
    | nil =>
      have hfin : looseI c ord = -1 := by
        obtain ⟨e, hp⟩ := hlr.out
        unfold looseI; rw [e, dropWhile_app _ _ _ (fun j hj => by simpa using hp j hj)]; rfl
      have HF := Lib.hid hfin; clear hfin
      simp only [headI_nil]
      go_wp2
      go_ret
      exact ⟨ret_int HF.out.symm, rfl⟩
    | cons i r' =>
      have hi : i < c.n := HL.out.lt i (by rw [hlr.out.1]; simp)
      have c1 := H.out.cpins hi
      have c2 := H.out.cnext hi
      have hn : c.next i = headI r' := by have := HL.out; rw [hlr.out.1] at this; exact this.nextI
      rw [hn] at c2
      clear hn
      simp only [headI_cons]
      have b0 : (0 : Int) ≤ i := by omega
      have b1 : (i : Int) < c.n := by omega
      have b2 : ((i : Int) != -1) = true := by simp
      by_cases hp : 0 < c.pins i
      · go_wp2
        go_roundg r'.length
        case measure => simp
        case rel => exact ⟨rfl, l ++ [i], r', rfl, rfl, Lib.hid ⟨by rw [hlr.out.1]; simp, fun j hj => by rcases List.mem_append.1 hj with hj | hj; exact hlr.out.2 j hj; simp at hj; subst hj; exact hp⟩⟩
      · have hfin : looseI c ord = i := by
          obtain ⟨e, hp'⟩ := hlr.out
          unfold looseI; rw [e, dropWhile_app _ _ _ (fun j hj => by simpa using hp' j hj), List.dropWhile_cons, if_neg (by simpa using hp)]; rfl
        have HF := Lib.hid hfin; clear hfin
        go_wp2
        go_ret
        exact ⟨ret_int HF.out.symm, rfl⟩

/-- How many are held, and their bytes. -/
def heldN (c : C) : List Nat → Nat
  | [] => 0
  | i :: l => (if 0 < c.pins i then 1 else 0) + heldN c l
def heldB (c : C) : List Nat → Nat
  | [] => 0
  | i :: l => (if 0 < c.pins i then c.dl i else 0) + heldB c l
def sumB (c : C) : List Nat → Nat
  | [] => 0
  | i :: l => c.dl i + sumB c l
theorem heldN_app (c : C) : ∀ l r : List Nat, heldN c (l ++ r) = heldN c l + heldN c r
  | [], r => by simp [heldN]
  | x :: l, r => by simp [heldN, heldN_app c l r, Nat.add_assoc]
theorem heldB_app (c : C) : ∀ l r : List Nat, heldB c (l ++ r) = heldB c l + heldB c r
  | [], r => by simp [heldB]
  | x :: l, r => by simp [heldB, heldB_app c l r, Nat.add_assoc]
theorem sumB_app (c : C) : ∀ l r : List Nat, sumB c (l ++ r) = sumB c l + sumB c r
  | [], r => by simp [sumB]
  | x :: l, r => by simp [sumB, sumB_app c l r, Nat.add_assoc]
theorem heldN_le (c : C) : ∀ l : List Nat, heldN c l ≤ l.length
  | [] => Nat.le_refl _
  | x :: l => by have := heldN_le c l; simp only [heldN, List.length_cons]; split <;> omega
theorem heldB_le (c : C) : ∀ l : List Nat, heldB c l ≤ sumB c l
  | [] => Nat.le_refl _
  | x :: l => by have := heldB_le c l; simp only [heldB, sumB]; split <;> omega
set_option maxHeartbeats 1000000 in
theorem held_any (w : World) (a : Nat) (c : C) (ord : List Nat) (h : Mem w a c) (hl : Linked c ord) (hb : sumB c ord ≤ 1000000000) (hn : ord.length ≤ 1000000000) :
    Calls Try.prog 47 #[.pointer (some ⟨a, 0, none⟩)] w fun e w' => e = .returned (.tuple #[.int .i64 (heldN c ord), .int .i64 (heldB c ord)]) ∧ w = w' := by
  have h0 := h.cslots
  have h2 := h.cold
  rw [hl.old] at h2
  have H := Lib.hid h; clear h
  have HL := Lib.hid hl; clear hl
  go_enter Try.func47, Try.ntmps47
  go_wp2
  go_loopg [2, 3, 4] ord.length (fun k v2 v3 i w' => w' = w ∧ ∃ l r : List Nat, v2 = .int .i64 (heldN c l) ∧ v3 = .int .i64 (heldB c l) ∧ i = .int .i64 (headI r) ∧ r.length = k ∧ Hid (ord = l ++ r))
  case atStart => exact ⟨rfl, [], ord, rfl, rfl, rfl, rfl, Lib.hid rfl⟩
  case round =>
    obtain ⟨rfl, l, r, rfl, rfl, rfl, rfl, hlr⟩ := hrel
    clear h2
    cases r with
    | nil =>
      have hN : heldN c ord = heldN c l := by rw [hlr.out, heldN_app]; rfl
      have hB : heldB c ord = heldB c l := by rw [hlr.out, heldB_app]; rfl
      have HN := Lib.hid hN; clear hN
      have HB := Lib.hid hB; clear hB
      simp only [headI_nil]
      have b2 : ((-1 : Int) != -1) = false := rfl
      go_wp2
      go_ret2
      exact ⟨by rw [HN.out, HB.out]; rfl, rfl⟩
    | cons i r' =>
      have hi : i < c.n := HL.out.lt i (by rw [hlr.out]; simp)
      have c1 := H.out.cpins hi
      have c2 := H.out.cnext hi
      have c3 := H.out.cdat hi
      have hn' : c.next i = headI r' := by have := HL.out; rw [hlr.out] at this; exact this.nextI
      rw [hn'] at c2
      clear hn'
      have q1 := heldN_le c l
      have q2 := heldB_le c l
      have q3 : l.length ≤ 1000000000 := by have := congrArg List.length hlr.out; simp at this; omega
      have q4 : sumB c l + c.dl i ≤ 1000000000 := by have := congrArg (sumB c) hlr.out; rw [sumB_app] at this; simp only [sumB] at this; omega
      clear hb hn
      unfold C.dat at c3
      simp only [headI_cons]
      have b0 : (0 : Int) ≤ i := by omega
      have b1 : (i : Int) < c.n := by omega
      have b2 : ((i : Int) != -1) = true := by simp
      by_cases hp : 0 < c.pins i
      · have e1 : heldN c (l ++ [i]) = heldN c l + 1 := by rw [heldN_app]; simp [heldN, hp]
        have e2 : heldB c (l ++ [i]) = heldB c l + c.dl i := by rw [heldB_app]; simp [heldB, hp]
        have E1 := Lib.hid e1; clear e1
        have E2 := Lib.hid e2; clear e2
        go_wp2
        go_roundg r'.length
        case measure => simp
        case rel => exact ⟨rfl, l ++ [i], r', by rw [E1.out]; go_num, by rw [E2.out]; go_num, rfl, rfl, Lib.hid (by rw [hlr.out]; simp)⟩
      · have e1 : heldN c (l ++ [i]) = heldN c l := by rw [heldN_app]; simp [heldN, hp]
        have e2 : heldB c (l ++ [i]) = heldB c l := by rw [heldB_app]; simp [heldB, hp]
        have E1 := Lib.hid e1; clear e1
        have E2 := Lib.hid e2; clear e2
        go_wp2
        go_roundg r'.length
        case measure => simp
        case rel => exact ⟨rfl, l ++ [i], r', by rw [E1.out], by rw [E2.out], rfl, rfl, Lib.hid (by rw [hlr.out]; simp)⟩
end Go.Proofs.Ytafeiankpckijaa
