/- Lists of chunks: what goes for another one's sake; a store with a chunk more. -/
import Derived.Test.YtafeiankpckijaaP
namespace Go.Proofs.Ytafeiankpckijaa
open Go.RowKit
set_option linter.unusedSimpArgs false
set_option linter.unusedVariables false
def hN : List Chunk → Nat
  | [] => 0
  | x :: l => (if 0 < x.pins then 1 else 0) + hN l
def hB : List Chunk → Nat
  | [] => 0
  | x :: l => (if 0 < x.pins then x.b.length else 0) + hB l
def sB : List Chunk → Nat
  | [] => 0
  | x :: l => x.b.length + sB l
def dropL : List Chunk → List Chunk
  | [] => []
  | x :: l => if 0 < x.pins then x :: dropL l else l
def over (most : Nat) (room : Int) (n : Nat) (L : List Chunk) : Bool := decide (most ≤ L.length) || decide (room < sB L + n)
def trimF (most : Nat) (room : Int) (n : Nat) : Nat → List Chunk → List Chunk
  | 0, L => L
  | f + 1, L => if over most room n L then trimF most room n f (dropL L) else L
def trim (most : Nat) (room : Int) (n : Nat) (L : List Chunk) : List Chunk := trimF most room n L.length L
theorem hN_app : ∀ l r : List Chunk, hN (l ++ r) = hN l + hN r
  | [], r => by simp [hN]
  | x :: l, r => by simp [hN, hN_app l r, Nat.add_assoc]
theorem hB_app : ∀ l r : List Chunk, hB (l ++ r) = hB l + hB r
  | [], r => by simp [hB]
  | x :: l, r => by simp [hB, hB_app l r, Nat.add_assoc]
theorem sB_app : ∀ l r : List Chunk, sB (l ++ r) = sB l + sB r
  | [], r => by simp [sB]
  | x :: l, r => by simp [sB, sB_app l r, Nat.add_assoc]
theorem heldN_eq {c : C} {ch : Nat → Chunk} : ∀ {l : List Nat}, (∀ i ∈ l, c.pins i = (ch i).pins) → heldN c l = hN (l.map ch)
  | [], _ => rfl
  | i :: l, h => by
    have h1 := h i (by simp)
    simp only [heldN, hN, List.map_cons, heldN_eq (fun j hj => h j (List.mem_cons_of_mem _ hj)), h1]
    by_cases e : 0 < (ch i).pins
    · rw [if_pos e, if_pos (by omega)]
    · rw [if_neg e, if_neg (by omega)]
theorem heldB_eq {c : C} {ch : Nat → Chunk} : ∀ {l : List Nat}, (∀ i ∈ l, c.pins i = (ch i).pins) → (∀ i ∈ l, c.dl i = (ch i).b.length) → heldB c l = hB (l.map ch)
  | [], _, _ => rfl
  | i :: l, h, h' => by
    have h1 := h i (by simp)
    simp only [heldB, hB, List.map_cons, heldB_eq (fun j hj => h j (List.mem_cons_of_mem _ hj)) (fun j hj => h' j (List.mem_cons_of_mem _ hj)), h1, h' i (by simp)]
    by_cases e : 0 < (ch i).pins
    · rw [if_pos e, if_pos (by omega)]
    · rw [if_neg e, if_neg (by omega)]
theorem sumB_eq {c : C} {ch : Nat → Chunk} : ∀ {l : List Nat}, (∀ i ∈ l, c.dl i = (ch i).b.length) → sumB c l = sB (l.map ch)
  | [], _ => rfl
  | i :: l, h => by simp only [sumB, sB, List.map_cons, sumB_eq (fun j hj => h j (List.mem_cons_of_mem _ hj)), h i (by simp)]
/-- All are held, or there is one that rested longest of those that are not. -/
theorem loose_split (ch : Nat → Chunk) : ∀ ord : List Nat, (hN (ord.map ch) = ord.length ∧ hB (ord.map ch) = sB (ord.map ch)) ∨
    ∃ l i r, ord = l ++ i :: r ∧ (∀ j ∈ l, 0 < (ch j).pins) ∧ (ch i).pins = 0 ∧ dropL (ord.map ch) = (l ++ r).map ch ∧ hN ((l ++ r).map ch) = hN (ord.map ch) ∧ hB ((l ++ r).map ch) = hB (ord.map ch)
  | [] => Or.inl ⟨rfl, rfl⟩
  | i :: ord => by
    by_cases e : 0 < (ch i).pins
    · rcases loose_split ch ord with ⟨h1, h2⟩ | ⟨l, j, r, h1, h2, h3, h4, h5, h6⟩
      · left; refine ⟨?_, ?_⟩
        · simp only [List.map_cons, hN, h1, if_pos e, List.length_cons]; omega
        · simp only [List.map_cons, hB, sB, h2, if_pos e]
      · right
        refine ⟨i :: l, j, r, by rw [h1]; rfl, ?_, h3, ?_, ?_, ?_⟩
        · intro x hx; rcases List.mem_cons.1 hx with rfl | hx; exact e; exact h2 x hx
        · simp only [List.map_cons, dropL, if_pos e, h4]; rfl
        · simp only [List.map_cons, List.cons_append, hN, h5]
        · simp only [List.map_cons, List.cons_append, hB, h6]
    · right
      refine ⟨[], i, ord, rfl, by simp, by omega, ?_, ?_, ?_⟩
      · simp only [List.map_cons, dropL, if_neg e, List.nil_append]
      · simp only [List.map_cons, hN, if_neg e, List.nil_append]; omega
      · simp only [List.map_cons, hB, if_neg e, List.nil_append]; omega
theorem looseI_split {c : C} {ch : Nat → Chunk} {l r : List Nat} {i : Nat} (hp : ∀ j ∈ l ++ i :: r, c.pins j = (ch j).pins) (h2 : ∀ j ∈ l, 0 < (ch j).pins) (h3 : (ch i).pins = 0) : looseI c (l ++ i :: r) = i := by
  unfold looseI
  rw [dropWhile_app, List.dropWhile_cons, if_neg]
  · rfl
  · have := hp i (by simp); simp; omega
  · intro j hj; have := hp j (by simp [hj]); have := h2 j hj; simp; omega
theorem trim_end {most n : Nat} {room : Int} {L : List Chunk} (h : over most room n L = false) : trim most room n L = L := by
  unfold trim; cases hl : L.length with
  | zero => rfl
  | succ f => rw [trimF, if_neg (by simp [h])]
theorem trim_step {most n : Nat} {room : Int} {L : List Chunk} (h : over most room n L = true) (hd : (dropL L).length + 1 = L.length) : trim most room n L = trim most room n (dropL L) := by
  unfold trim; rw [← hd, trimF, if_pos h]
/-- What Put makes of the numbers. -/
def C.laid (c : C) (k x : Nat) (bo : Option Addr) (bl bc : Nat) : C :=
  { c with nf := c.nf - 1, key := upd c.key x (sumC k), da := upd c.da x bo, dl := upd c.dl x bl, dc := upd c.dc x bc, pins := upd c.pins x 0, prev := upd c.prev x 0, next := upd c.next x 0 }
def C.added (c : C) (k x : Nat) (bo : Option Addr) (bl bc : Nat) : C :=
  { c.laid k x bo bl bc with es := c.es.push { key := .agg (sumC k).toArray, val := .int .i64 x, born := c.clock }, clock := c.clock + 1, bytes := c.bytes + bl }
theorem Good.addedLinked {w : World} {a : Nat} {F : Nat → Prop} {c : C} {ord : List Nat} {E : List (Nat × Nat)} {ch : Nat → Chunk} (h : Good w a F c ord E ch) {k x bl bc : Nat} {bo : Option Addr} (hni : x ∉ ord) : Linked (c.added k x bo bl bc) ord := by
  have hl := h.link
  have hne : ∀ j ∈ ord, j ≠ x := fun j hj e => hni (e ▸ hj)
  exact ⟨hl.old, Chain.congr (fun j hj => upd_other _ _ (hne j hj)) hl.next, hl.young, Chain.congr (fun j hj => upd_other _ _ (hne j (by simpa using hj))) hl.prev, hl.nodup, hl.lt⟩
theorem Good.added {w w' : World} {a : Nat} {F : Nat → Prop} {c : C} {ord : List Nat} {E : List (Nat × Nat)} {ch : Nat → Chunk} (h : Good w a F c ord E ch) {k x bc m : Nat} {bo : Option Addr} {b : List Int} (hs : seek k E 0 = none) (hk : k < 65536)
    (hnf : c.nf = m + 1) (hx : c.free m = x) (hm : Mem w' a ((c.added k x bo b.length bc).link x)) (hfit : (sumB c ord + b.length : Int) ≤ c.room)
    (hd : DataAt w' (fun y => w.heap.size ≤ y ∧ y < w'.heap.size) bo b) (ho : Only (Four a c) w w') :
    Good w' a (fun y => F y ∨ (w.heap.size ≤ y ∧ y < w'.heap.size)) ((c.added k x bo b.length bc).link x) (ord ++ [x]) (E ++ [(k, x)]) (upd ch x ⟨k, b, 0⟩) := by
  have hxn := h.flt m (by omega)
  rw [hx] at hxn
  obtain ⟨hxl, hni⟩ := hxn
  have hne : ∀ j ∈ ord, j ≠ x := fun j hj e => hni (e ▸ hj)
  have hlink := (h.addedLinked (k := k) (bl := b.length) (bc := bc) (bo := bo) hni).link (i := x) hxl hni
  have hsum : sumB ((c.added k x bo b.length bc).link x) (ord ++ [x]) = sumB c ord + b.length := by
    rw [sumB_app, Good.sumB_congr (c := c) (fun i hi => upd_other _ _ (hne i hi))]
    simp only [sumB]
    show _ + (upd c.dl x b.length x + 0) = _
    rw [upd_same]; omega
  have hmem : ∀ {i}, i ∈ ord ++ [x] → i ∈ ord ∨ i = x := fun hi => by simpa using hi
  have hfl := h.flen
  have hel := h.elen
  refine ⟨hm, hlink, h.ents.push k x c.clock, h.most, h.n64, h.n1, h.room, ?_, ?_, ?_, ?_, ?_, ?_, ?_, h.fcap, ?_, ?_, ?_, ?_, ?_, ?_, ?_, ?_⟩
  · intro p hp
    rcases List.mem_append.1 hp with hp | hp
    · obtain ⟨h1, h2⟩ := h.emem p hp
      exact ⟨by simp [h1], by rw [upd_other _ _ (hne _ h1)]; exact h2⟩
    · simp at hp; subst hp; exact ⟨by simp, by rw [upd_same]⟩
  · intro i hi
    rcases hmem hi with hi | rfl
    · rw [upd_other _ _ (hne _ hi)]; simp [h.eall i hi]
    · rw [upd_same]; simp
  · rw [List.map_append, List.nodup_append]
    refine ⟨h.enod, by simp, ?_⟩
    intro p hp q hq e
    simp at hq
    obtain ⟨r, hr, hrp⟩ := List.mem_map.1 hp
    exact seek_none hs r hr (by rw [hrp, e, hq])
  · simp [hel]
  · intro i j hij hj
    have : j < c.nf := by have : j < c.nf - 1 := hj; omega
    exact h.fnod i j hij this
  · intro i hi
    have hi' : i < m := by have : i < c.nf - 1 := hi; omega
    obtain ⟨h1, h2⟩ := h.flt i (by omega)
    refine ⟨h1, fun hc => ?_⟩
    rcases hmem hc with hc | hc
    · exact h2 hc
    · exact h.fnod i m hi' (by omega) (by rw [hx]; exact hc)
  · show (c.nf - 1) + (ord ++ [x]).length = c.n
    simp; omega
  · intro i hi
    rcases hmem hi with hi | rfl
    · rw [upd_other _ _ (hne _ hi)]
      exact ⟨(upd_other _ _ (hne _ hi)).trans (h.key i hi).1, (h.key i hi).2⟩
    · rw [upd_same]; exact ⟨upd_same _ _ _, hk⟩
  · intro i hi
    rcases hmem hi with hi | rfl
    · rw [upd_other _ _ (hne _ hi)]; exact (upd_other _ _ (hne _ hi)).trans (h.pins i hi)
    · rw [upd_same]; exact upd_same _ _ _
  · intro i hi
    rcases hmem hi with hi | rfl
    · rw [upd_other _ _ (hne _ hi)]; exact (upd_other _ _ (hne _ hi)).trans (h.len i hi)
    · rw [upd_same]; exact upd_same _ _ _
  · intro i hi
    rcases hmem hi with hi | rfl
    · rw [upd_other _ _ (hne _ hi)]
      have e : ((c.added k x bo b.length bc).link x).da i = c.da i := upd_other _ _ (hne _ hi)
      rw [e]
      exact ((h.data i hi).frame (fun y hy => ho.block y (h.low y hy.1) hy.2)).mono fun y hy => ⟨Or.inl hy.1, hy.2⟩
    · rw [upd_same]
      have e : ((c.added k i bo b.length bc).link i).da i = bo := upd_same _ _ _
      rw [e]
      exact hd.mono fun y hy => ⟨Or.inr hy, fun hf => absurd (h.low y (h.own y hf)) (by omega)⟩
  · rw [hsum]
    have := h.bytes
    show c.bytes + (b.length : Int) = _
    rw [this]; omega
  · rw [hsum]
    show ((sumB c ord + b.length : Nat) : Int) ≤ c.room
    omega
  · exact fun y hy => Or.inl (h.own y hy)
  · intro y hy
    rcases hy with hy | hy
    · exact Nat.lt_of_lt_of_le (h.low y hy) ho.size
    · exact hy.2
theorem Mem.lay {w : World} {a k x bl bc : Nat} {bo : Option Addr} {c : C} (h : Mem w a { c with nf := c.nf - 1 }) (hx : x < c.n) :
    Mem (w.setCells c.gs (x * 36) (sumC k ++ [.slice bo bl bc, .int .i64 0, .int .i64 0, .int .i64 0])) a (c.laid k x bo bl bc) := by
  have hl := sumC_len k
  refine Mem.setWhole h (i := x) hx (by simp [hl]) ?_ rfl rfl rfl rfl rfl rfl rfl rfl ?_ ?_ ?_ rfl rfl rfl
  · intro v hv
    rcases List.mem_append.1 hv with hv | hv
    · obtain ⟨n, rfl, _⟩ := (sumC_ok k).2 v hv; rfl
    · simp at hv; rcases hv with rfl | rfl <;> rfl
  · intro j hj
    by_cases e : j = x
    · subst e; simp [C.laid, upd_same, hl]
    · simp only [C.laid]; rw [upd_other _ _ e]; exact h.key j hj
  · simp [C.slot, C.dat, C.laid, upd_same]
  · intro j hj e; simp only [C.slot, C.dat, C.laid]; rw [upd_other _ _ e, upd_other _ _ e, upd_other _ _ e, upd_other _ _ e, upd_other _ _ e, upd_other _ _ e, upd_other _ _ e]
end Go.Proofs.Ytafeiankpckijaa
