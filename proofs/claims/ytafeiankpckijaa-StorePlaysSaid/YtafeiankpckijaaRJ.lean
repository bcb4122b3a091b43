/- The walk of Put, in the document's store. -/
import Derived.Test.YtafeiankpckijaaRI
namespace Go.Proofs.Ytafeiankpckijaa
open Go.RowKit
set_option linter.unusedSimpArgs false
set_option linter.unusedVariables false
attribute [local go_sem ↓] Go.wp_at_zero Go.wp_at_succ
attribute [local go_sem ↓ high] bldR_eq bldN_eq
attribute [local go_sem] bldR_run build81_run
theorem again_put {W w w2 w7 : World} {r most room nn k : Nat} {L : List Chunk} {l t R0 : List RC} {x : RC} {lo6 : Option Addr} {cap6 : Nat} {G : Nat → Prop} {v0 : Value} {b : List Int} (h : Ref W w7 r most room (l ++ t ++ [x]) (.slice lo6 nn cap6) (fun y => G y ∨ (Value.slice lo6 nn cap6).ownBlock = some y)) (ho : Only (fun y => y = r) w w7) (hv : ∀ g, (Value.slice lo6 nn cap6).ownBlock = some g → w2.heap.size ≤ g)
    (hs : hasL k L = true ∧ oth k L = (l ++ t).map RC.ch ∧ own k L = [x.ch]) (ho2 : Only (fun _ => False) w w2) (hR : Ref W w r most room R0 v0 G) :
    Ending.returned (.int .i64 0) = .returned (.int .i64 (putE most room k b.length L)) ∧ RefL W w7 r most room (putL most room k b L) (grow G w w7) ∧ Only (fun y => y = r) w w7 :=
  ⟨by rw [putE_has hs.1], ⟨_, _, by rw [putL_has hs.1]; exact again_touch hs, again_wide h hv ho2 ho hR.low_base⟩, ho⟩
theorem hN_app' (l r : List Chunk) : hN (l ++ r) = hN l + hN r := hN_app l r
theorem hB_app' : ∀ l r : List Chunk, hB (l ++ r) = hB l + hB r
  | [], r => by simp [hB]
  | x :: l, r => by simp only [List.cons_append, hB, hB_app' l r]; omega
theorem hN_take {L : List Chunk} {i : Nat} (h : i < L.length) : hN (L.take (i + 1)) = hN (L.take i) + (if 0 < (L[i]).pins then 1 else 0) := by
  rw [List.take_succ_eq_append_getElem h, hN_app']; simp [hN]
theorem hB_take {L : List Chunk} {i : Nat} (h : i < L.length) : hB (L.take (i + 1)) = hB (L.take i) + (if 0 < (L[i]).pins then (L[i]).b.length else 0) := by
  rw [List.take_succ_eq_append_getElem h, hB_app']; simp [hB]
theorem hN_le' : ∀ L : List Chunk, hN L ≤ L.length
  | [] => Nat.le_refl _
  | x :: L => by simp only [hN, List.length_cons]; have := hN_le' L; split <;> omega
theorem hB_le' : ∀ L : List Chunk, hB L ≤ sB L
  | [] => Nat.le_refl _
  | x :: L => by simp only [hB, sB]; have := hB_le' L; split <;> omega
theorem hB_take_le {L : List Chunk} {i : Nat} : hB (L.take i) ≤ hB L := by
  conv => rhs; rw [← List.take_append_drop i L, hB_app']
  omega
/-- Where the loop that makes room stands. -/
structure PutSt (W w wl : World) (r most room k n : Nat) (L0 : List Chunk) (G : Nat → Prop) (ao : Option Addr) (b : List Int) (L : List Chunk) : Prop where
  ref : RefL W wl r most room L (grow G w wl)
  only : Only (fun y => y = r) w wl
  nodup : (L.map (·.key)).Nodup
  has : hasL k L = false
  trim : trim most (room : Int) n L = trim most (room : Int) n L0
  hn : hN L = hN L0
  hb : hB L = hB L0
  len : L.length ≤ most
  size : sB L ≤ room
  box : wl.rangeAt w.heap.size 0 (sumC k)
  dat : DataAt wl (fun y => y < W.heap.size) ao b
theorem HFN0 {W w wr : World} {r most room : Nat} {R : List RC} {v : Value} {G : Nat → Prop} (h : Ref W w r most room R v G) (h3 : Ref W wr r most room R v G) (ho : Only (fun _ => False) w wr) : RefL W wr r most room (R.map RC.ch) (grow G w wr) :=
  ⟨R, _, rfl, h3.wide (fun y hy => Or.inl hy) (fun y hy => by
    rcases hy with hy | hy
    · exact h3.low y hy
    · exact ⟨Nat.le_trans (h.low_base) hy.1, hy.2⟩)⟩
theorem loose_split' : ∀ L : List Chunk, (hN L = L.length ∧ hB L = sB L) ∨ ∃ A x B, L = A ++ x :: B ∧ (∀ y ∈ A, 0 < y.pins) ∧ x.pins = 0 ∧ dropL L = A ++ B ∧ hN (A ++ B) = hN L ∧ hB (A ++ B) = hB L
  | [] => Or.inl ⟨rfl, rfl⟩
  | x :: L => by
    by_cases hp : 0 < x.pins
    · rcases loose_split' L with ⟨h1, h2⟩ | ⟨A, y, B, h1, h2, h3, h4, h5, h6⟩
      · left; simp only [hN, hB, sB, if_pos hp, List.length_cons]; omega
      · right
        refine ⟨x :: A, y, B, by rw [h1]; rfl, fun z hz => ?_, h3, ?_, ?_, ?_⟩
        · rcases List.mem_cons.1 hz with rfl | hz
          · exact hp
          · exact h2 z hz
        · unfold dropL; rw [if_pos hp, h4]; rfl
        · simp only [List.cons_append, hN, h5]
        · simp only [List.cons_append, hB, h6]
    · right
      exact ⟨[], x, L, rfl, by simp, by omega, by unfold dropL; rw [if_neg hp]; rfl, by simp only [List.nil_append, hN, if_neg hp]; omega, by simp only [List.nil_append, hB, if_neg hp]; omega⟩
theorem sB_app2 (A B : List Chunk) : sB (A ++ B) = sB A + sB B := sB_app A B
theorem PutSt.next {W w wl : World} {r most room k n : Nat} {L0 L1 : List Chunk} {G : Nat → Prop} {ao : Option Addr} {b : List Int} {R1 : List RC} (h : PutSt W w wl r most room k n L0 G ao b L1) (hR : R1.map RC.ch = L1) (hov : over most (room : Int) n L1 = true) (hn : hN L0 < most) (hb : hB L0 + n ≤ room) :
    ∃ l x t, R1 = l ++ x :: t ∧ (∀ y ∈ l, 0 < y.pins) ∧ x.pins = 0 ∧ ((l ++ t).map RC.ch).length + 1 = L1.length ∧
      ∀ w', RefL W w' r most room ((l ++ t).map RC.ch) (grow G w w') → Only (fun y => y = r) w w' → w'.rangeAt w.heap.size 0 (sumC k) → DataAt w' (fun y => y < W.heap.size) ao b → PutSt W w w' r most room k n L0 G ao b ((l ++ t).map RC.ch) := by
  rcases loose_split' L1 with ⟨h1, h2⟩ | ⟨A, x, B, h1, h2, h3, h4, h5, h6⟩
  · exfalso
    unfold over at hov
    rw [Bool.or_eq_true, decide_eq_true_iff, decide_eq_true_iff] at hov
    have := h.hn; have := h.hb
    omega
  · rw [← hR] at h1
    obtain ⟨l, t', e1, e2, e3⟩ := List.map_eq_append_iff.1 h1
    obtain ⟨x', t, e4, e5, e6⟩ := List.map_eq_cons_iff.1 e3
    subst e4 e1
    have e7 : (l ++ t).map RC.ch = A ++ B := by rw [List.map_append, e2, e6]
    have hL1 : L1 = A ++ x :: B := by rw [← hR, h1]
    have hsub : ∀ c ∈ A ++ B, c ∈ L1 := fun c hc => by rw [hL1]; rcases List.mem_append.1 hc with hc | hc <;> simp [hc]
    refine ⟨l, x', t, rfl, fun y hy => h2 y.ch (by rw [← e2]; exact List.mem_map.2 ⟨y, hy, rfl⟩), (congrArg Chunk.pins e5).trans h3, by rw [e7, hL1]; simp; omega, fun w' r1 r2 r3 r4 => ?_⟩
    rw [e7] at r1 ⊢
    have hd : (dropL L1).length + 1 = L1.length := by
      have h4' : dropL L1 = A ++ B := by rw [hL1]; rw [hL1] at h4; exact h4
      rw [h4', hL1]; simp; omega
    have h4' : dropL L1 = A ++ B := by rw [hL1]; rw [hL1] at h4; exact h4
    have h5' : hN (A ++ B) = hN L1 := by rw [hL1]; rw [hL1] at h5; exact h5
    have h6' : hB (A ++ B) = hB L1 := by rw [hL1]; rw [hL1] at h6; exact h6
    refine ⟨r1, r2, ?_, ?_, ?_, h5'.trans h.hn, h6'.trans h.hb, ?_, ?_, r3, r4⟩
    · have hnd := h.nodup
      rw [hL1] at hnd
      rw [List.map_append]
      rw [List.map_append, List.map_cons] at hnd
      exact hnd.sublist (List.Sublist.append_left (List.sublist_cons_self _ _) _)
    · rw [has_iff']; intro hm
      obtain ⟨c, hc, e⟩ := List.mem_map.1 hm
      exact (has_iff'.1 h.has) (List.mem_map.2 ⟨c, hsub c hc, e⟩)
    · rw [← h.trim, trim_step hov hd, h4']
    · have := h.len; rw [hL1] at this; simp at this ⊢; omega
    · have := h.size; rw [hL1, sB_app] at this; rw [sB_app]; simp only [sB] at this; omega
theorem put_next {W w wo wq wr w3 : World} {r most room k n : Nat} {L0 L1 : List Chunk} {G : Nat → Prop} {ao : Option Addr} {b : List Int} {l t R0 : List RC} {v' v0 : Value}
    (hnext : ∀ w', RefL W w' r most room ((l ++ t).map RC.ch) (grow G w w') → Only (fun y => y = r) w w' → w'.rangeAt w.heap.size 0 (sumC k) → DataAt w' (fun y => y < W.heap.size) ao b → PutSt W w w' r most room k n L0 G ao b ((l ++ t).map RC.ch))
    (hst : PutSt W w wo r most room k n L0 G ao b L1) (ho1 : Only (fun _ => False) wo wq) (ho2 : Only (fun _ => False) wq wr) (hr3 : Ref W w3 r most room (l ++ t) v' (grow (grow G w wo) wr w3)) (ho3 : Only (fun y => y = r) wr w3) (hR : Ref W w r most room R0 v0 G) : PutSt W w w3 r most room k n L0 G ao b ((l ++ t).map RC.ch) := by
  have h12 := ho1.trans ho2
  have hoA : Only (fun y => y = r) wo w3 := (Only.mono h12 (fun _ _ h => h.elim)).trans ho3
  have hoW := hst.only.trans hoA
  have hs1 := hst.only.size
  have hs2 := h12.size
  have hs3 := ho3.size
  have hrl := hR.lt
  have hrW := (hR.low r hR.rG).1
  refine hnext w3 ⟨_, _, rfl, hr3.wide (fun y hy => ?_) (fun y hy => ?_)⟩ hoW (fun j u hj => hoA.cell (hst.box j u hj) (fun e => by have : w.heap.size = r := e; omega)) (fun j hj => ?_)
  · rcases hy with (hy | hy) | hy
    · exact Or.inl hy
    · exact Or.inr ⟨hy.1, by omega⟩
    · exact Or.inr ⟨by omega, hy.2⟩
  · rcases hy with hy | hy
    · exact hr3.low y (Or.inl (Or.inl hy))
    · exact ⟨Nat.le_trans hR.low_base hy.1, hy.2⟩
  · obtain ⟨ad, e1, e2, e3⟩ := hst.dat j hj
    exact ⟨ad, e1, hoA.cell e2 (by rw [add_block]; omega), e3⟩
theorem trim_not' {most room n : Nat} {L : List Chunk} (h : over most (room : Int) n L = false) : trim most (room : Int) n L = L := by
  unfold trim
  cases hl : L.length with
  | zero => rfl
  | succ f => unfold trimF; rw [h]; rfl
theorem put_start {W w wo wq : World} {r most room k n : Nat} {L0 L1 : List Chunk} {G : Nat → Prop} {ao : Option Addr} {b : List Int} {R1 R0 : List RC} {v v0 : Value} (h : Ref W wq r most room R1 v (grow G w wo)) (ho : Only (fun _ => False) wo wq) (hst : PutSt W w wo r most room k n L0 G ao b L1) (hR : Ref W w r most room R0 v0 G) :
    PS W wq.drew wq.drew r most room k w.heap.size R1 v (grow G w wo) ao b := by
  have hod := ho.trans (Only.refl (fun _ => False) wq).drew
  have hs := hod.size
  refine ⟨h.only (Only.refl (fun _ => False) wq).drew, Only.refl _ _, hst.dat.frame' hod, ronly hst.box hod, ?_, fun y hy => ?_⟩
  · have := block_lt_of_cell (hst.box 0 _ (List.getElem?_eq_getElem (by rw [sumC_len]; omega))); simp at this; omega
  · exact (h.low y hy).2
/-- The last append of Put, and what is set then. -/
theorem put_more {W w0 c : World} {r most room k bk : Nat} {R1 : List RC} {v v5 : Value} {G : Nat → Prop} {ao lo10 : Option Addr} {b : List Int} {cap10 : Nat} {x : RC} (e1 : x.key = k) (e2 : x.b = b) (e3 : x.pins = 0) (e4 : x.bo = lo10) (e5 : x.cap = cap10)
    (h : PS W w0 c r most room k bk R1 v G ao b) (h6 : c.ownsRow w0.heap.size 81 34 v5 R1.length (rcs R1)) (h10 : c.ownsRow w0.heap.size 5 1 (.slice lo10 b.length cap10) b.length (b.map (Value.int .u8))) (h0 : PS W w0 w0 r most room k bk R1 v G ao b) (hl : R1.length ≤ 1000000) (hk : k < 65536) (hbr : bk ≠ r) :
    ∃ lo cap w', (Builtin.append_ #[59, 59] 59 #[v5, .slice (some ⟨c.heap.size, 0, none⟩) 1 1]).run Try.prog (c.alloc (.cells x.cells.toArray 81)) = .ok (.slice lo (R1.length + 1) cap) w' ∧ w'.cell? ⟨r, 2, none⟩ = some v ∧ w'.frozen? ⟨r, 2, none⟩ = false ∧
      (w'.rangeAt bk 0 (sumC k) ∧ (w'.setCell ⟨r, 2, none⟩ (.slice lo (R1.length + 1) cap)).rangeAt bk 0 (sumC k)) ∧
      (Ref W (w'.setCell ⟨r, 2, none⟩ (.slice lo (R1.length + 1) cap)) r most room (R1 ++ [x]) (.slice lo (R1.length + 1) cap) (grow G w0 (w'.setCell ⟨r, 2, none⟩ (.slice lo (R1.length + 1) cap))) ∧ Only (fun y => y = r) w0 (w'.setCell ⟨r, 2, none⟩ (.slice lo (R1.length + 1) cap)) ∧ x.ch = ⟨k, b, 0⟩) := by
  have ho := (Only.refl (fun _ => False) c).alloc (.cells x.cells.toArray 81)
  obtain ⟨lo, cap, w', hr, ho13, hg13⟩ := own_more (n := 0) (x := x) h6 h.size hl
  have h1 := (h.only ho).new (grown_beside (own_only h6 ho) hg13)
  have h10' := (own_only h10 ho).kept hg13 (own_diff (own_only h10 ho) (own_only h6 ho) (by decide))
  have hd := data_of_own h10'
  have hlt := h10'.lt
  have hlt13 := ho13.lt
  have hlen : (R1 ++ [x]).length = R1.length + 1 := by simp
  obtain ⟨s1, s2, s3, s4⟩ := ref_new (R' := R1 ++ [x]) h0.ref h1.bes (by rw [hlen]; exact ho13)
    (fun y hy => by
      rcases List.mem_append.1 hy with hy | hy
      · exact h0.ref.olddata (B := 0) h1.bes (fun g hg => (hlt13 g hg).1) hy
      · simp at hy
        subst hy
        rw [e2, e4]
        exact hd.mono (fun q hq => ⟨Or.inr (hlt q hq), fun e => by have := (hlt q hq).1; have := h0.ref.lt; omega, fun e => by
          rcases own_diff h10' ho13 (by decide) with h9 | h9
          · rw [h9] at hq; cases hq
          · exact h9 (hq.trans e.symm)⟩))
    (fun y hy => by
      rcases List.mem_append.1 hy with hy | hy
      · exact h0.ref.keys y hy
      · simp at hy; subst hy; rw [e1]; exact hk)
  refine ⟨lo, cap, w', hr, s1, s2, ⟨h1.box, fun j u hj => s4.cell (h0.box j u hj) (fun e => ?_)⟩, s3, s4, by unfold RC.ch; rw [e1, e2, e3]⟩
  have e' : bk = r := e
  exact hbr e'
theorem put_end {W w wo wd w7 : World} {r most room k : Nat} {L0 L1 : List Chunk} {G : Nat → Prop} {ao : Option Addr} {b : List Int} {R1 R0 : List RC} {x : RC} {v7 v0 : Value} (hh : hasL k L0 = false) (hf : hN L0 < most ∧ hB L0 + b.length ≤ room) (hov : over most (room : Int) b.length L1 = false)
    (hst : PutSt W w wo r most room k b.length L0 G ao b L1) (hod : Only (fun _ => False) wo wd) (hRL : R1.map RC.ch = L1)
    (hfin : Ref W w7 r most room (R1 ++ [x]) v7 (grow (grow G w wo) wd w7) ∧ Only (fun y => y = r) wd w7 ∧ x.ch = ⟨k, b, 0⟩) (hR : Ref W w r most room R0 v0 G) :
    Ending.returned (.int .i64 0) = .returned (.int .i64 (putE most room k b.length L0)) ∧ RefL W w7 r most room (putL most room k b L0) (grow G w w7) ∧ Only (fun y => y = r) w w7 := by
  have hfull : fullL most room b.length L0 = false := by
    unfold fullL; rw [Bool.or_eq_false_iff, decide_eq_false_iff_not, decide_eq_false_iff_not]; omega
  have hp : putL most room k b L0 = L1 ++ [⟨k, b, 0⟩] := by
    unfold putL; rw [hh, hfull]
    show trim most (room : Int) b.length L0 ++ _ = _
    rw [← hst.trim, trim_not' hov]
  have hoW : Only (fun y => y = r) w w7 := hst.only.trans ((Only.mono hod (fun _ _ h => h.elim)).trans hfin.2.1)
  have hs1 := hst.only.size
  have hs2 := hod.size
  have hs3 := hfin.2.1.size
  refine ⟨by rw [putE_free hh hfull], ⟨R1 ++ [x], v7, ?_, hfin.1.wide (fun y hy => ?_) (fun y hy => ?_)⟩, hoW⟩
  · rw [List.map_append, hRL, hp]; simp [hfin.2.2]
  · rcases hy with (hy | hy) | hy
    · exact Or.inl hy
    · exact Or.inr ⟨hy.1, by omega⟩
    · exact Or.inr ⟨by omega, hy.2⟩
  · rcases hy with hy | hy
    · exact hfin.1.low y (Or.inl (Or.inl hy))
    · exact ⟨Nat.le_trans hR.low_base hy.1, hy.2⟩
theorem rc32 {w : World} {g : Nat} {x : RC} (h : w.rangeAt g 0 x.cells) : w.cell? ⟨g, 32, none⟩ = some (.slice x.bo x.b.length x.cap) := by simpa using RC.slice h
theorem rc33 {w : World} {g : Nat} {x : RC} (h : w.rangeAt g 0 x.cells) : w.cell? ⟨g, 33, none⟩ = some (.int .i64 x.pins) := by simpa using RC.pinc h
set_option maxRecDepth 100000 in
set_option maxHeartbeats 16000000 in
theorem rput_any (W w : World) (r most room k : Nat) (L : List Chunk) (G : Nat → Prop) (h : RefL W w r most room L G) (hk : k < 65536) (hnd : (L.map (·.key)).Nodup) (hlm : L.length ≤ most) (hsr : sB L ≤ room) (hm : most ≤ 64) (hr8 : room ≤ 8192)
    {ao : Option Addr} {b : List Int} (hd : DataAt w (fun y => y < W.heap.size) ao b) (capd : Nat) (hb : b.length ≤ 1000000) :
    Calls Try.prog 36 #[.pointer (some ⟨r, 0, none⟩), Sum_ k, .slice ao b.length capd] w fun e w' => e = .returned (.int .i64 (putE most room k b.length L)) ∧ RefL W w' r most room (putL most room k b L) (grow G w w') ∧ Only (fun y => y = r) w w' := by
  obtain ⟨R, v, rfl, hR⟩ := h
  have hl : (R.map RC.ch).length ≤ 64 := by omega
  have ho1 := (Only.refl (fun _ => False) w).alloc (.cells (sumC k).toArray 38)
  have KP := Lib.hid (place_any W _ r most room k R v G (hR.only ho1) hk (by rw [List.length_map] at hl; omega))
  have HB := Lib.hid (box_range w (sumC k) 38)
  have HI := Lib.hid (infoSum k)
  have HO := Lib.hid ho1
  have HR := Lib.hid hR
  have HD := Lib.hid hd
  clear hR ho1 hd
  unfold Sum_
  go_enter Try.func36, Try.ntmps36
  go_wp2_with (first | ((with_reducible refine gate_load 38 rfl ?_); (refine wpList_load_mid rfl 38 _ rfl w.heap.size 0 (by rfl) (sumC k) _ HB.out under38 rfl HI.out ?_)) | fail)
  refine KP.out.mono ?_
  rintro e w2 ⟨rfl, ho2⟩
  have HO2 := Lib.hid (HO.out.trans ho2)
  have HBX := Lib.hid (ronly HB.out ho2)
  clear ho2 KP
  rcases place_cases k R with ⟨l, x, t, rfl, h2, h3, h4⟩ | ⟨h1, h2⟩
  · rw [h4]
    clear hm hr8 hlm hsr
    have hR2 := HR.out.only HO2.out
    obtain ⟨lo, cap, hvv⟩ := hR2.row
    subst hvv
    generalize hc0 : (l ++ x :: t).length = cap0 at hR2
    have KD := Lib.hid (drop_any W w2 r most room l t x (.slice lo cap0 cap) G hR2 (by rw [List.length_map] at hl; omega))
    have HU0 := under81
    obtain ⟨dd, hu, hdr⟩ := HU0
    have HU := Lib.hid (And.intro hu hdr)
    have HI2 := Lib.hid (show (Try.prog.info? 81).map (·.size) = some x.cells.length by rw [info81, RC.len])
    have HSP := Lib.hid (And.intro (ch_split h2 h3 hnd) (hR2.keys x (by simp)))
    have hGl : ∀ q, G q → q < w2.heap.size ∧ W.heap.size ≤ q := fun q hq => ⟨(hR2.low q hq).2, (hR2.low q hq).1⟩
    have HGL := Lib.hid (And.intro hGl hR2.rG)
    have b0 : (0 : Int) ≤ (l.length : Int) := by omega
    have bneg : decide ((l.length : Int) < 0) = false := decide_eq_false (by omega)
    clear h2 h3 h4 hR2 hu hdr hGl
    go_wp2_with fail
    refine KD.out.mono ?_
    rintro e w3 ⟨rfl, v', hr3, ho3, hdat3, hv3⟩
    obtain ⟨lo3, cap3, rfl⟩ := hr3.row
    have H3 := Lib.hid (And.intro hr3 (And.intro ho3 (And.intro hdat3 hv3)))
    clear KD hr3 ho3 hdat3 hv3
    go_wp2_with (first
      | ((with_reducible refine gate_store 81 rfl ?_); go_must (refine wpList_store_whole rfl 81 _ _ rfl w3.heap.size 0 x.cells.toArray (by rfl) (by rfl) (by rw [RC.size]; exact box_there w3 _ 81) (by rw [RC.size]; exact info81) (by exact all_oneCell_toArray x.one) ?_); intro w4 hw4; have hv := var_rc rfl hw4; clear hw4; have HV4 := Lib.hid hv.1; have HO4 := Lib.hid hv.2; clear hv)
      | fail)
    have hr4 := (H3.out.1.only HO4.out.1).only (Only.refl (fun _ => False) w4).drew
    have hc4 := hr4.c2
    have h3lt : w2.heap.size ≤ w3.heap.size := H3.out.2.1.size
    have h4lt : w3.heap.size ≤ w4.heap.size := HO4.out.1.size
    obtain ⟨lo6, cap6, w6, hrun, s1, s2, hbb, x5, s3, hv6, s4⟩ := back_app (w4 := w4) (R0 := l ++ t) (x := x) (G := G) (B := w2.heap.size) (H3.out.1.only HO4.out.1) rfl H3.out.2.2.2
      (fun y hy => (H3.out.2.2.1 y (by simp only [List.mem_append, List.mem_cons, List.not_mem_nil, or_false] at hy ⊢; rcases hy with (hy | hy) | hy <;> simp [hy])).frame' HO4.out.1)
      HGL.out.1 HGL.out.2 (by omega) HSP.out.2 (by have : (l ++ t).length ≤ (l ++ x :: t).length := by simp
                                                   rw [List.length_map] at hl; omega)
    have hown3 := H3.out.1.own.lt
    have rB0 : w4.drew.rangeAt w3.heap.size 0 x.cells := fun j u hj => HV4.out j u hj
    have rB1 : (w4.alloc (.cells x.cells.toArray 81)).drew.rangeAt w3.heap.size 0 x.cells := ronly HV4.out ((Only.refl (fun _ => False) w4).alloc _).drew
    have rB2 : w6.rangeAt w3.heap.size 0 x.cells := rbeside HV4.out hbb ⟨by have := HO4.out.2; omega, fun e => by have := (hown3 _ e).2; omega⟩
    have hr3lt := H3.out.1.lt
    have rB3 : (w6.setCell ⟨r, 2, none⟩ (.slice lo6 ((l ++ t).length + 1) cap6)).rangeAt w3.heap.size 0 x.cells := fun j u hj => s4.cell (rB2 j u hj) (fun e => by have : w3.heap.size = r := e; omega)
    have x4 : w4.cell? ⟨r, 2, none⟩ = some (.slice lo3 (l ++ t).length cap3) := hc4
    have hoW : Only (fun y => y = r) w4 (w6.setCell ⟨r, 2, none⟩ (.slice lo6 ((l ++ t).length + 1) cap6)) ∨ True := Or.inr trivial
    have hoA : Only (fun y => y = r) w w4 := (Only.mono HO2.out (fun _ _ h => h.elim)).trans (H3.out.2.1.trans (Only.mono HO4.out.1 (fun _ _ h => h.elim)))
    have hoB : Only (fun y => y = r) w w6 := hoA.trans' hbb (fun i hi hn => by
      exfalso
      have h9 := HO2.out.size
      exact hn ⟨by omega, fun e => by have := H3.out.2.2.2 _ e; omega⟩)
    have HF := Lib.hid (And.intro s3 (And.intro (hoB.trans s4) (And.intro hv6 rB3)))
    have HRUN := Lib.hid hrun
    generalize hnn : (l ++ t).length = nn at *
    clear hrun hbb s3 hv6 s4 hoA hoB hoW hown3 hr4 hc4 h3lt h4lt hr3lt HV4
    go_wp2_with fail
    refine wp_region_noPanic ?_
    refine wp_region_held_drew (S := (fun w' => w'.rangeAt w3.heap.size 0 x.cells)) (by kernel_rfl) (rB0) (fun hHeld => ?_)
    refine wpAnyH_take (i := 0) (v := ?_) rfl (by kernel_rfl) (by kernel_rfl) (by kernel_rfl) (fun _ _ _ h => h) (Or.inl ⟨by rfl, ?_⟩) (by assumption) ?_
    rotate_left
    · ((intro w hSw); (first | (go_simp; done) | (go_simp; with_reducible rfl)))
    (try simp only [Act.put, List.setIfInBounds_toArray, List.set_cons_zero, List.set_cons_succ, List.getElem_toArray, List.getElem_cons_succ, List.getElem_cons_zero])
    refine wpAnyH_take (i := 1) (v := ?_) rfl (by kernel_rfl) (by kernel_rfl) (by kernel_rfl) (fun _ _ _ h => h) (Or.inl ⟨by rfl, ?_⟩) (by assumption) ?_
    rotate_left
    · ((intro w hSw); (first | (go_simp; done) | (go_simp; with_reducible rfl)))
    (try simp only [Act.put, List.setIfInBounds_toArray, List.set_cons_zero, List.set_cons_succ, List.getElem_toArray, List.getElem_cons_succ, List.getElem_cons_zero])
    refine wpAnyH_take (i := 2) (v := ?_) rfl (by kernel_rfl) (by kernel_rfl) (by kernel_rfl) (fun _ _ _ h => h) (Or.inl ⟨by rfl, ?_⟩) (by assumption) ?_
    rotate_left
    · ((intro w hSw); (first | (go_simp; done) | (go_simp; with_reducible rfl)))
    (try simp only [Act.put, List.setIfInBounds_toArray, List.set_cons_zero, List.set_cons_succ, List.getElem_toArray, List.getElem_cons_succ, List.getElem_cons_zero])
    refine wpAnyH_take (i := 3) (v := ?_) rfl (by kernel_rfl) (by kernel_rfl) (by kernel_rfl) (fun _ _ _ h => h) (Or.inl ⟨by rfl, ?_⟩) (by assumption) ?_
    rotate_left
    · ((intro w hSw); (first | (go_simp; done) | (go_simp; with_reducible rfl)))
    (try simp only [Act.put, List.setIfInBounds_toArray, List.set_cons_zero, List.set_cons_succ, List.getElem_toArray, List.getElem_cons_succ, List.getElem_cons_zero])
    refine wpAnyH_take (i := 5) (v := .agg x.cells.toArray) rfl (by kernel_rfl) (by kernel_rfl) (by kernel_rfl) (fun _ _ _ h => h) (yieldsIf_load_mid (by rfl) 81 _ rfl w3.heap.size 0 (by rfl) x.cells _ (fun w h => h) HU.out.1 HU.out.2 HI2.out) (by assumption) ?_
    (try simp only [Act.put, List.setIfInBounds_toArray, List.set_cons_zero, List.set_cons_succ, List.getElem_toArray, List.getElem_cons_succ, List.getElem_cons_zero])
    refine wpAnyH_ready (rs := [4, 6]) (by kernel_rfl) (by simp) ?_
    refine AllReadyH.cons rfl (fun K hK => ?_) (AllReadyH.cons rfl (fun K hK => ?_) (AllReadyH.nil))
    · go_simp
      refine hK.out _ _ (by first | exact rB1 | exact rB0) (fun hHeld => ?_)
      clear hK K
      (try simp only [Act.put, List.setIfInBounds_toArray, List.set_cons_zero, List.set_cons_succ, List.getElem_toArray, List.getElem_cons_succ, List.getElem_cons_zero])
      refine wpAnyH_ready (rs := [6]) (by kernel_rfl) (by simp) ?_
      refine AllReadyH.cons rfl (fun K hK => ?_) (AllReadyH.nil)
      go_simp
      refine hK.out _ _ (by first | exact rB1 | exact rB0) (fun hHeld => ?_)
      clear hK K
      (try simp only [Act.put, List.setIfInBounds_toArray, List.set_cons_zero, List.set_cons_succ, List.getElem_toArray, List.getElem_cons_succ, List.getElem_cons_zero])
      refine wpAnyH_ready (rs := [7]) (by kernel_rfl) (by simp) ?_
      refine AllReadyH.cons rfl (fun K hK => ?_) (AllReadyH.nil)
      rw [if_pos (by rfl)]
      refine wp_append_run (.tmp 26) (.tmp 28) 59 59 rfl rfl _ _ (by rfl) (by rfl) _ _ HRUN.out ?_
      refine hK.out _ _ (rB2) (fun hHeld => ?_)
      clear hK K
      (try simp only [Act.put, List.setIfInBounds_toArray, List.set_cons_zero, List.set_cons_succ, List.getElem_toArray, List.getElem_cons_succ, List.getElem_cons_zero])
      refine wpAnyH_take (i := 8) (v := ?_) rfl (by kernel_rfl) (by kernel_rfl) (by kernel_rfl) (fun _ _ _ h => h) (Or.inl ⟨by rfl, ?_⟩) (by assumption) ?_
      rotate_left
      · ((intro w hSw); (first | (go_simp; done) | (go_simp; with_reducible rfl)))
      (try simp only [Act.put, List.setIfInBounds_toArray, List.set_cons_zero, List.set_cons_succ, List.getElem_toArray, List.getElem_cons_succ, List.getElem_cons_zero])
      refine wpAnyH_take (i := 9) (v := ?_) rfl (by kernel_rfl) (by kernel_rfl) (by kernel_rfl) (fun _ _ _ h => h) (Or.inl ⟨by rfl, ?_⟩) (by assumption) ?_
      rotate_left
      · ((intro w hSw); (first | (go_simp; done) | (go_simp; with_reducible rfl)))
      (try simp only [Act.put, List.setIfInBounds_toArray, List.set_cons_zero, List.set_cons_succ, List.getElem_toArray, List.getElem_cons_succ, List.getElem_cons_zero])
      refine wpAnyH_ready (rs := [10]) (by kernel_rfl) (by simp) ?_
      refine AllReadyH.cons rfl (fun K hK => ?_) (AllReadyH.nil)
      go_simp
      refine hK.out _ _ (rB3) (fun hHeld => ?_)
      clear hK K
      (try simp only [Act.put, List.setIfInBounds_toArray, List.set_cons_zero, List.set_cons_succ, List.getElem_toArray, List.getElem_cons_succ, List.getElem_cons_zero])
      refine wpAnyH_done (by kernel_rfl) ?_ _
      refine NoPanic.normal ?_
      clear rB0 rB1 rB2 rB3 x4 x5 s1 s2
      go_wp2
      go_ret
      exact again_put HF.out.1 HF.out.2.1 HF.out.2.2.1 HSP.out.1 HO2.out HR.out
    · go_simp
      refine hK.out _ _ (by first | exact rB1 | exact rB0) (fun hHeld => ?_)
      clear hK K
      (try simp only [Act.put, List.setIfInBounds_toArray, List.set_cons_zero, List.set_cons_succ, List.getElem_toArray, List.getElem_cons_succ, List.getElem_cons_zero])
      refine wpAnyH_ready (rs := [4]) (by kernel_rfl) (by simp) ?_
      refine AllReadyH.cons rfl (fun K hK => ?_) (AllReadyH.nil)
      go_simp
      refine hK.out _ _ (by first | exact rB1 | exact rB0) (fun hHeld => ?_)
      clear hK K
      (try simp only [Act.put, List.setIfInBounds_toArray, List.set_cons_zero, List.set_cons_succ, List.getElem_toArray, List.getElem_cons_succ, List.getElem_cons_zero])
      refine wpAnyH_ready (rs := [7]) (by kernel_rfl) (by simp) ?_
      refine AllReadyH.cons rfl (fun K hK => ?_) (AllReadyH.nil)
      rw [if_pos (by rfl)]
      refine wp_append_run (.tmp 26) (.tmp 28) 59 59 rfl rfl _ _ (by rfl) (by rfl) _ _ HRUN.out ?_
      refine hK.out _ _ (rB2) (fun hHeld => ?_)
      clear hK K
      (try simp only [Act.put, List.setIfInBounds_toArray, List.set_cons_zero, List.set_cons_succ, List.getElem_toArray, List.getElem_cons_succ, List.getElem_cons_zero])
      refine wpAnyH_take (i := 8) (v := ?_) rfl (by kernel_rfl) (by kernel_rfl) (by kernel_rfl) (fun _ _ _ h => h) (Or.inl ⟨by rfl, ?_⟩) (by assumption) ?_
      rotate_left
      · ((intro w hSw); (first | (go_simp; done) | (go_simp; with_reducible rfl)))
      (try simp only [Act.put, List.setIfInBounds_toArray, List.set_cons_zero, List.set_cons_succ, List.getElem_toArray, List.getElem_cons_succ, List.getElem_cons_zero])
      refine wpAnyH_take (i := 9) (v := ?_) rfl (by kernel_rfl) (by kernel_rfl) (by kernel_rfl) (fun _ _ _ h => h) (Or.inl ⟨by rfl, ?_⟩) (by assumption) ?_
      rotate_left
      · ((intro w hSw); (first | (go_simp; done) | (go_simp; with_reducible rfl)))
      (try simp only [Act.put, List.setIfInBounds_toArray, List.set_cons_zero, List.set_cons_succ, List.getElem_toArray, List.getElem_cons_succ, List.getElem_cons_zero])
      refine wpAnyH_ready (rs := [10]) (by kernel_rfl) (by simp) ?_
      refine AllReadyH.cons rfl (fun K hK => ?_) (AllReadyH.nil)
      go_simp
      refine hK.out _ _ (rB3) (fun hHeld => ?_)
      clear hK K
      (try simp only [Act.put, List.setIfInBounds_toArray, List.set_cons_zero, List.set_cons_succ, List.getElem_toArray, List.getElem_cons_succ, List.getElem_cons_zero])
      refine wpAnyH_done (by kernel_rfl) ?_ _
      refine NoPanic.normal ?_
      clear rB0 rB1 rB2 rB3 x4 x5 s1 s2
      go_wp2
      go_ret
      exact again_put HF.out.1 HF.out.2.1 HF.out.2.2.1 HSP.out.1 HO2.out HR.out
  · rw [h2]
    have HN := Lib.hid (ch_none h1)
    obtain ⟨lo, cap, rfl⟩ := HR.out.row
    obtain ⟨dd, hu, hdr⟩ := under81
    have HU := Lib.hid (And.intro hu hdr)
    have HR2 := Lib.hid (HR.out.only HO2.out)
    have HD2 := Lib.hid (HD.out.frame' HO2.out)
    have c2 := HR2.out.c2
    have hlen : R.length ≤ 64 := by rw [List.length_map] at hl; exact hl
    have hll : (R.map RC.ch).length = R.length := List.length_map ..
    have HKK := Lib.hid (And.intro hnd (And.intro hlm (And.intro hsr (And.intro hm hr8))))
    clear h1 h2 hu hdr
    go_wp2_with fail
    go_loopg [9, 10, 37] R.length (fun gg v9 v10 v37 wl => ∃ i : Nat, v37 = .int .i64 i ∧ v9 = .int .i64 (hN ((R.map RC.ch).take i)) ∧ v10 = .int .i64 (hB ((R.map RC.ch).take i)) ∧ Hid (i + gg = R.length ∧ Only (fun _ => False) w2 wl))
    case atStart => exact ⟨0, rfl, rfl, rfl, Lib.hid ⟨by omega, Only.refl _ _⟩⟩
    case round =>
      obtain ⟨i, rfl, rfl, rfl, hh⟩ := hrel
      obtain ⟨hig, ho⟩ := hh.out
      clear hh c2
      by_cases hi : i < R.length
      · have hi' : (i : Int) < (R.length : Int) := by omega
        have b0 : (0 : Int) ≤ i := by omega
        have h2 := HR2.out.only ho
        have c2 := h2.c2
        have hx := List.getElem?_eq_getElem hi
        obtain ⟨g, cap', hv, hr⟩ := h2.at hx
        simp only [Value.slice.injEq] at hv
        obtain ⟨rfl, -, rfl⟩ := hv
        have hxl : (R.map RC.ch)[i]'(by omega) = (R[i]).ch := by simp
        have t1 := hN_take (L := R.map RC.ch) (i := i) (by omega)
        have t2 := hB_take (L := R.map RC.ch) (i := i) (by omega)
        rw [hxl] at t1 t2
        have t3 : hN ((R.map RC.ch).take i) ≤ i := Nat.le_trans (hN_le' _) (List.length_take_le ..)
        have t4 := hB_take_le (L := R.map RC.ch) (i := i + 1)
        have t5 := hB_le' (R.map RC.ch)
        have t6 := HKK.out.2.2
        have e1 : (R[i]).ch.pins = (R[i]).pins := rfl
        have e2 : (R[i]).ch.b = (R[i]).b := rfl
        rw [e1] at t1
        rw [e1, e2] at t2
        generalize R[i] = x at *
        have HRG := Lib.hid hr
        have HI2 := Lib.hid (show (Try.prog.info? 81).map (·.size) = some x.cells.length by rw [info81, RC.len])
        have HO1 := Lib.hid ho
        clear h2 hx hr ho hxl e1 e2
        by_cases hp : 0 < x.pins
        · rw [if_pos hp] at t1 t2
          have hp' : (0 : Int) < (x.pins : Int) := by omega
          have hw1 : wrap64 ((hN ((R.map RC.ch).take i) : Int) + 1) = ((hN ((R.map RC.ch).take (i + 1)) : Nat) : Int) := by unfold wrap64; omega
          have hw2 : wrap64 ((hB ((R.map RC.ch).take i) : Int) + (x.b.length : Int)) = ((hB ((R.map RC.ch).take (i + 1)) : Nat) : Int) := by unfold wrap64; omega
          have HW := Lib.hid (And.intro hw1 hw2)
          clear t1 t2 t3 t4 t5 t6 hp
          go_wp2_with (first
            | ((with_reducible refine gate_load 81 rfl ?_); (refine wpList_load_mid rfl 81 _ rfl g (i * 34) (by rfl) x.cells dd HRG.out HU.out.1 HU.out.2 HI2.out ?_))
            | ((with_reducible refine gate_store 81 rfl ?_); go_must (refine wpList_store_whole rfl 81 _ _ rfl wr.heap.size 0 x.cells.toArray (by rfl) (by rfl) (by rw [RC.size]; exact box_there wr _ 81) (by rw [RC.size]; exact info81) (by exact all_oneCell_toArray x.one) ?_); intro w4 hw4; have hv := var_rc rfl hw4; clear hw4; have HV4 := Lib.hid hv.1; have HO4 := Lib.hid hv.2; clear hv; have c32 := rc32 HV4.out; have c33 := rc33 HV4.out)
            | fail)
          go_roundg (R.length - (i + 1))
          case measure => omega
          case rel => exact ⟨i + 1, by go_num, by first | rfl | (rw [HW.out.1]), by first | rfl | (rw [HW.out.2]), Lib.hid ⟨by omega, HO1.out.trans HO4.out.1⟩⟩
        · rw [if_neg hp] at t1 t2
          have hp' : decide ((0 : Int) < (x.pins : Int)) = false := decide_eq_false (by omega)
          have hp2 : decide (0 < x.pins) = false := decide_eq_false hp
          have hp3 : x.pins = 0 := by omega
          have HW := Lib.hid (And.intro t1 t2)
          clear t1 t2 t3 t4 t5 t6 hp
          go_wp2_with (first
            | ((with_reducible refine gate_load 81 rfl ?_); (refine wpList_load_mid rfl 81 _ rfl g (i * 34) (by rfl) x.cells dd HRG.out HU.out.1 HU.out.2 HI2.out ?_))
            | ((with_reducible refine gate_store 81 rfl ?_); go_must (refine wpList_store_whole rfl 81 _ _ rfl wr.heap.size 0 x.cells.toArray (by rfl) (by rfl) (by rw [RC.size]; exact box_there wr _ 81) (by rw [RC.size]; exact info81) (by exact all_oneCell_toArray x.one) ?_); intro w4 hw4; have hv := var_rc rfl hw4; clear hw4; have HV4 := Lib.hid hv.1; have HO4 := Lib.hid hv.2; clear hv; have c32 := rc32 HV4.out; have c33 := rc33 HV4.out)
            | fail)
          go_roundg (R.length - (i + 1))
          case measure => omega
          case rel => exact ⟨i + 1, by go_num, by rw [HW.out.1]; rfl, by rw [HW.out.2]; rfl, Lib.hid ⟨by omega, HO1.out.trans HO4.out.1⟩⟩
      · have hi' : ¬ (i : Int) < (R.length : Int) := by omega
        have hie : (R.map RC.ch).take i = R.map RC.ch := List.take_of_length_le (by omega)
        rw [hie]
        clear hie
        have HR3 := Lib.hid (HR2.out.only ho)
        have HO3 := Lib.hid (HO2.out.trans ho)
        have HD3 := Lib.hid (HD2.out.frame' ho)
        have HB3 := Lib.hid (ronly HBX.out ho)
        clear ho HR2 HO2 HD2 HBX
        obtain ⟨c0, c1, c2⟩ := (⟨HR3.out.c0, HR3.out.c1, HR3.out.c2⟩ : _ ∧ _ ∧ _)
        have t6 := HKK.out.2
        have tn := hN_le' (R.map RC.ch)
        have tb := hB_le' (R.map RC.ch)
        have hwr : wrap64 ((room : Int) - (hB (R.map RC.ch) : Int)) = (room : Int) - (hB (R.map RC.ch) : Int) := by unfold wrap64; omega
        have hfin : ∀ (f : fullL most room b.length (R.map RC.ch) = true), RefL W wr r most room (putL most room k b (R.map RC.ch)) (grow G w wr) ∧ Only (fun y => y = r) w wr := fun f => ⟨by
          rw [put_full_same (putE_full HN.out f)]
          exact ⟨R, _, rfl, HR3.out.wide (fun y hy => Or.inl hy) (fun y hy => by
            rcases hy with hy | hy
            · exact HR3.out.low y hy
            · exact ⟨Nat.le_trans (HR.out.low_base) hy.1, hy.2⟩)⟩, Only.mono HO3.out (fun _ _ h => h.elim)⟩
        have HFN := Lib.hid hfin; clear hfin
        by_cases f1 : hN (R.map RC.ch) = most
        · have HF1 := Lib.hid (show fullL most room b.length (R.map RC.ch) = true from by unfold fullL; rw [Bool.or_eq_true, decide_eq_true_iff]; left; omega)
          have f1' : (hN (R.map RC.ch) : Int) = (most : Int) := by omega
          clear f1 tn tb t6
          go_wp2
          go_ret
          exact ⟨by rw [putE_full HN.out HF1.out]; rfl, HFN.out HF1.out⟩
        · have f1' : ((hN (R.map RC.ch) : Int) == (most : Int)) = false := by rw [beq_eq_false_iff_ne]; omega
          have f1'' : (hN (R.map RC.ch) == most) = false := by rw [beq_eq_false_iff_ne]; omega
          by_cases f2 : room < hB (R.map RC.ch) + b.length
          · have HF1 := Lib.hid (show fullL most room b.length (R.map RC.ch) = true from by unfold fullL; rw [Bool.or_eq_true, decide_eq_true_iff, decide_eq_true_iff]; right; exact f2)
            have f2' : (room : Int) - (hB (R.map RC.ch) : Int) < (b.length : Int) := by omega
            clear f1 f2 tn tb t6
            go_wp2
            go_ret
            exact ⟨by rw [putE_full HN.out HF1.out]; rfl, HFN.out HF1.out⟩
          · have HF1 := Lib.hid (And.intro (show hN (R.map RC.ch) < most by omega) (show hB (R.map RC.ch) + b.length ≤ room by omega))
            have f2' : decide ((room : Int) - (hB (R.map RC.ch) : Int) < (b.length : Int)) = false := decide_eq_false (by omega)
            have HT0 := Lib.hid (show PutSt W w wr r most room k b.length (R.map RC.ch) G ao b (R.map RC.ch) from
              ⟨(HFN0 HR.out HR3.out HO3.out), Only.mono HO3.out (fun _ _ h => h.elim), HKK.out.1, HN.out, rfl, rfl, rfl, HKK.out.2.1, HKK.out.2.2.1, HB3.out, HD3.out⟩)
            clear f1 f2 tn tb t6 HFN
            go_wp2_with fail
            clear f1' f1'' f2' c0 c1 c2 hwr
            clear hi hi' hig
            go_loopg [] (R.map RC.ch).length (fun gg wl => ∃ L1, Hid (L1.length = gg ∧ PutSt W w wl r most room k b.length (R.map RC.ch) G ao b L1))
            case atStart => exact ⟨_, Lib.hid ⟨rfl, HT0.out⟩⟩
            case round =>
              obtain ⟨L1, hh⟩ := hrel
              obtain ⟨hgg, hst⟩ := hh.out
              clear hh HT0
              obtain ⟨R1, v1, hRL, hR1⟩ := hst.ref
              obtain ⟨lo1, cap1, rfl⟩ := hR1.row
              have hlen1 : R1.length = L1.length := by rw [← hRL, List.length_map]
              have hd := hR1.only (Only.refl (fun _ => False) wr).drew
              have x0 := hd.c0
              have x1 := hd.c1
              have x2 : wr.drew.cell? ⟨r, 2, none⟩ = some (.slice lo1 L1.length cap1) := by rw [← hlen1]; exact hd.c2
              have HRD := Lib.hid hd
              have HST := Lib.hid hst
              have hsl := hst.len
              have hss := hst.size
              have HRL := Lib.hid hRL
              have t8 := HKK.out.2.2.2
              have hwr : IntKind.i64.wrap ((room : Int) - (sB L1 : Int)) = (room : Int) - (sB L1 : Int) := by simp [IntKind.wrap, IntKind.bits, IntKind.signed]; omega
              have HGG := Lib.hid hgg
              have HL1 := Lib.hid hlen1
              clear hd hR1 hst hRL hgg hlen1
              by_cases oA : L1.length = most
              · have hov : over most (room : Int) b.length L1 = true := by unfold over; rw [Bool.or_eq_true, decide_eq_true_iff]; left; omega
                have oA' : ((L1.length : Int) == (most : Int)) = true := by rw [beq_iff_eq]; omega
                have oA2 : (L1.length == most) = true := by rw [beq_iff_eq]; omega
                obtain ⟨l, x, t, rfl, hlp, hxp, hln, hnext⟩ := HST.out.next HRL.out hov HF1.out.1 HF1.out.2
                have HNX := Lib.hid (And.intro hlp (And.intro hxp (And.intro hln hnext)))
                clear hov oA hlp hxp hln hnext hsl hss t8 hwr
                go_wp2_with fail
                refine wp_region_noPanic ?_
                refine wp_region_held_drew (S := (fun w' => w'.cell? ⟨r, 0, none⟩ = some (.int .i64 (most : Int)) ∧ w'.cell? ⟨r, 1, none⟩ = some (.int .i64 (room : Int)) ∧ w'.cell? ⟨r, 2, none⟩ = some (.slice lo1 L1.length cap1))) (by kernel_rfl) (⟨x0, x1, x2⟩) (fun hHeld => ?_)
                refine wpAnyH_take (i := 0) (v := ?_) rfl (by kernel_rfl) (by kernel_rfl) (by kernel_rfl) (fun _ _ _ h => h) (Or.inl ⟨by rfl, ?_⟩) (by assumption) ?_
                rotate_left
                · ((intro w hSw); (first | (go_simp; done) | (go_simp; with_reducible rfl)))
                (try simp only [Act.put, List.setIfInBounds_toArray, List.set_cons_zero, List.set_cons_succ, List.getElem_toArray, List.getElem_cons_succ, List.getElem_cons_zero])
                refine wpAnyH_take (i := 1) (v := ?_) rfl (by kernel_rfl) (by kernel_rfl) (by kernel_rfl) (fun _ _ _ h => h) (Or.inl ⟨by rfl, ?_⟩) (by assumption) ?_
                rotate_left
                · ((intro w hSw); (first | (go_simp; done) | (go_simp; with_reducible rfl)))
                (try simp only [Act.put, List.setIfInBounds_toArray, List.set_cons_zero, List.set_cons_succ, List.getElem_toArray, List.getElem_cons_succ, List.getElem_cons_zero])
                refine wpAnyH_take (i := 2) (v := ?_) rfl (by kernel_rfl) (by kernel_rfl) (by kernel_rfl) (fun _ _ _ h => h) (Or.inl ⟨by rfl, ?_⟩) (by assumption) ?_
                rotate_left
                · ((intro w hSw); (first | (go_simp; done) | (go_simp; with_reducible rfl)))
                (try simp only [Act.put, List.setIfInBounds_toArray, List.set_cons_zero, List.set_cons_succ, List.getElem_toArray, List.getElem_cons_succ, List.getElem_cons_zero])
                refine wpAnyH_take (i := 3) (v := ?_) rfl (by kernel_rfl) (by kernel_rfl) (by kernel_rfl) (fun _ _ _ h => h) (Or.inl ⟨by rfl, ?_⟩) (by assumption) ?_
                rotate_left
                · ((intro w hSw); (first | (go_simp; done) | (go_simp; with_reducible rfl)))
                (try simp only [Act.put, List.setIfInBounds_toArray, List.set_cons_zero, List.set_cons_succ, List.getElem_toArray, List.getElem_cons_succ, List.getElem_cons_zero])
                refine wpAnyH_take (i := 4) (v := ?_) rfl (by kernel_rfl) (by kernel_rfl) (by kernel_rfl) (fun _ _ _ h => h) (Or.inl ⟨by rfl, ?_⟩) (by assumption) ?_
                rotate_left
                · ((intro w hSw); (first | (go_simp; done) | (go_simp; with_reducible rfl)))
                (try simp only [Act.put, List.setIfInBounds_toArray, List.set_cons_zero, List.set_cons_succ, List.getElem_toArray, List.getElem_cons_succ, List.getElem_cons_zero])
                refine wpAnyH_take (i := 5) (v := ?_) rfl (by kernel_rfl) (by kernel_rfl) (by kernel_rfl) (fun _ _ _ h => h) (Or.inl ⟨by rfl, ?_⟩) (by assumption) ?_
                rotate_left
                · ((intro w hSw); (first | (go_simp; done) | (go_simp; with_reducible rfl)))
                (try simp only [Act.put, List.setIfInBounds_toArray, List.set_cons_zero, List.set_cons_succ, List.getElem_toArray, List.getElem_cons_succ, List.getElem_cons_zero])
                refine wpAnyH_take (i := 6) (v := ?_) rfl (by kernel_rfl) (by kernel_rfl) (by kernel_rfl) (fun _ _ _ h => h) (Or.inl ⟨by rfl, ?_⟩) (by assumption) ?_
                rotate_left
                · ((intro w hSw); (first | (go_simp; done) | (go_simp; with_reducible rfl)))
                (try simp only [Act.put, List.setIfInBounds_toArray, List.set_cons_zero, List.set_cons_succ, List.getElem_toArray, List.getElem_cons_succ, List.getElem_cons_zero])
                refine wpAnyH_take (i := 7) (v := ?_) rfl (by kernel_rfl) (by kernel_rfl) (by kernel_rfl) (fun _ _ _ h => h) (Or.inl ⟨by rfl, ?_⟩) (by assumption) ?_
                rotate_left
                · ((intro w hSw); (first | (go_simp; done) | (go_simp; with_reducible rfl)))
                (try simp only [Act.put, List.setIfInBounds_toArray, List.set_cons_zero, List.set_cons_succ, List.getElem_toArray, List.getElem_cons_succ, List.getElem_cons_zero])
                refine wpAnyH_take (i := 8) (v := ?_) rfl (by kernel_rfl) (by kernel_rfl) (by kernel_rfl) (fun _ _ _ h => h) (Or.inl ⟨by rfl, ?_⟩) (by assumption) ?_
                rotate_left
                · ((intro w hSw); (first | (go_simp; done) | (go_simp; with_reducible rfl)))
                (try simp only [Act.put, List.setIfInBounds_toArray, List.set_cons_zero, List.set_cons_succ, List.getElem_toArray, List.getElem_cons_succ, List.getElem_cons_zero])
                refine wpAnyH_take (i := 9) (v := ?_) rfl (by kernel_rfl) (by kernel_rfl) (by kernel_rfl) (fun _ _ _ h => h) (Or.inl ⟨by rfl, ?_⟩) (by assumption) ?_
                rotate_left
                · ((intro w hSw); (first | (go_simp; done) | (go_simp; with_reducible rfl)))
                (try simp only [Act.put, List.setIfInBounds_toArray, List.set_cons_zero, List.set_cons_succ, List.getElem_toArray, List.getElem_cons_succ, List.getElem_cons_zero])
                refine wpAnyH_take (i := 10) (v := ?_) rfl (by kernel_rfl) (by kernel_rfl) (by kernel_rfl) (fun _ _ _ h => h) (Or.inl ⟨by rfl, ?_⟩) (by assumption) ?_
                rotate_left
                · ((intro w hSw); (first | (go_simp; done) | (go_simp; with_reducible rfl)))
                (try simp only [Act.put, List.setIfInBounds_toArray, List.set_cons_zero, List.set_cons_succ, List.getElem_toArray, List.getElem_cons_succ, List.getElem_cons_zero])
                refine wpAnyH_take (i := 11) (v := undef) rfl (by kernel_rfl) (by kernel_rfl) (by kernel_rfl) (fun _ _ _ h => h) (Or.inr ⟨by rfl, rfl⟩) (by assumption) ?_
                (try simp only [Act.put, List.setIfInBounds_toArray, List.set_cons_zero, List.set_cons_succ, List.getElem_toArray, List.getElem_cons_succ, List.getElem_cons_zero])
                refine wpAnyH_take (i := 12) (v := undef) rfl (by kernel_rfl) (by kernel_rfl) (by kernel_rfl) (fun _ _ _ h => h) (Or.inr ⟨by rfl, rfl⟩) (by assumption) ?_
                (try simp only [Act.put, List.setIfInBounds_toArray, List.set_cons_zero, List.set_cons_succ, List.getElem_toArray, List.getElem_cons_succ, List.getElem_cons_zero])
                refine wpAnyH_take (i := 13) (v := undef) rfl (by kernel_rfl) (by kernel_rfl) (by kernel_rfl) (fun _ _ _ h => h) (Or.inr ⟨by rfl, rfl⟩) (by assumption) ?_
                (try simp only [Act.put, List.setIfInBounds_toArray, List.set_cons_zero, List.set_cons_succ, List.getElem_toArray, List.getElem_cons_succ, List.getElem_cons_zero])
                refine wpAnyH_take (i := 14) (v := undef) rfl (by kernel_rfl) (by kernel_rfl) (by kernel_rfl) (fun _ _ _ h => h) (Or.inr ⟨by rfl, rfl⟩) (by assumption) ?_
                (try simp only [Act.put, List.setIfInBounds_toArray, List.set_cons_zero, List.set_cons_succ, List.getElem_toArray, List.getElem_cons_succ, List.getElem_cons_zero])
                refine wpAnyH_take (i := 15) (v := undef) rfl (by kernel_rfl) (by kernel_rfl) (by kernel_rfl) (fun _ _ _ h => h) (Or.inr ⟨by rfl, rfl⟩) (by assumption) ?_
                (try simp only [Act.put, List.setIfInBounds_toArray, List.set_cons_zero, List.set_cons_succ, List.getElem_toArray, List.getElem_cons_succ, List.getElem_cons_zero])
                refine wpAnyH_take (i := 16) (v := undef) rfl (by kernel_rfl) (by kernel_rfl) (by kernel_rfl) (fun _ _ _ h => h) (Or.inr ⟨by rfl, rfl⟩) (by assumption) ?_
                (try simp only [Act.put, List.setIfInBounds_toArray, List.set_cons_zero, List.set_cons_succ, List.getElem_toArray, List.getElem_cons_succ, List.getElem_cons_zero])
                refine wpAnyH_take (i := 17) (v := undef) rfl (by kernel_rfl) (by kernel_rfl) (by kernel_rfl) (fun _ _ _ h => h) (Or.inr ⟨by rfl, rfl⟩) (by assumption) ?_
                (try simp only [Act.put, List.setIfInBounds_toArray, List.set_cons_zero, List.set_cons_succ, List.getElem_toArray, List.getElem_cons_succ, List.getElem_cons_zero])
                refine wpAnyH_take (i := 18) (v := undef) rfl (by kernel_rfl) (by kernel_rfl) (by kernel_rfl) (fun _ _ _ h => h) (Or.inr ⟨by rfl, rfl⟩) (by assumption) ?_
                (try simp only [Act.put, List.setIfInBounds_toArray, List.set_cons_zero, List.set_cons_succ, List.getElem_toArray, List.getElem_cons_succ, List.getElem_cons_zero])
                refine wpAnyH_take (i := 19) (v := undef) rfl (by kernel_rfl) (by kernel_rfl) (by kernel_rfl) (fun _ _ _ h => h) (Or.inr ⟨by rfl, rfl⟩) (by assumption) ?_
                (try simp only [Act.put, List.setIfInBounds_toArray, List.set_cons_zero, List.set_cons_succ, List.getElem_toArray, List.getElem_cons_succ, List.getElem_cons_zero])
                refine wpAnyH_take (i := 20) (v := undef) rfl (by kernel_rfl) (by kernel_rfl) (by kernel_rfl) (fun _ _ _ h => h) (Or.inr ⟨by rfl, rfl⟩) (by assumption) ?_
                (try simp only [Act.put, List.setIfInBounds_toArray, List.set_cons_zero, List.set_cons_succ, List.getElem_toArray, List.getElem_cons_succ, List.getElem_cons_zero])
                refine wpAnyH_take (i := 21) (v := ?_) rfl (by kernel_rfl) (by kernel_rfl) (by kernel_rfl) (fun _ _ _ h => h) (Or.inl ⟨by rfl, ?_⟩) (by assumption) ?_
                rotate_left
                · ((intro w hSw); (first | (go_simp; done) | (go_simp; with_reducible rfl)))
                (try simp only [Act.put, List.setIfInBounds_toArray, List.set_cons_zero, List.set_cons_succ, List.getElem_toArray, List.getElem_cons_succ, List.getElem_cons_zero])
                refine wpAnyH_done (by kernel_rfl) ?_ _
                refine NoPanic.normal ?_
                have HRQ := Lib.hid (And.intro HRD.out (Only.refl (fun _ => False) wr).drew)
                generalize wr.drew = wq at *
                clear x0 x1 x2 HRD oA' oA2
                obtain ⟨N, hNN⟩ : ∃ N, N = (l ++ x :: t).length := ⟨_, rfl⟩
                have hlN : l.length + 1 + t.length = N := by rw [hNN]; simp; omega
                have c2 : wq.cell? ⟨r, 2, none⟩ = some (.slice lo1 N cap1) := by rw [hNN]; exact HRQ.out.1.c2
                have hN64 : N ≤ 1000000 := by have h1 := HST.out.len; have h2 := HL1.out; have h3 := HKK.out.2.2.2.1; omega
                have HNN := Lib.hid hNN; clear hNN
                go_wp2_with fail
                go_loopg [13] l.length (fun gg v13 wl => ∃ j : Nat, v13 = .int .i64 j ∧ Hid (j + gg = l.length ∧ Only (fun _ => False) wq wl))
                case atStart => exact ⟨0, rfl, Lib.hid ⟨by omega, Only.refl _ _⟩⟩
                case round =>
                  obtain ⟨j, rfl, hh⟩ := hrel
                  obtain ⟨hjg, ho⟩ := hh.out
                  clear hh c2
                  have hRj := HRQ.out.1.only ho
                  have b0 : (0 : Int) ≤ j := by omega
                  by_cases hj : j < l.length
                  · have hx : (l ++ x :: t)[j]? = some l[j] := by rw [List.getElem?_append_left hj]; exact List.getElem?_eq_getElem hj
                    have hpj := HNX.out.1 l[j] (List.getElem_mem hj)
                    obtain ⟨g, cap', hv, hr⟩ := hRj.at hx
                    simp only [Value.slice.injEq] at hv
                    obtain ⟨rfl, -, rfl⟩ := hv
                    generalize l[j] = y at *
                    have c33 := RC.pinc hr
                    have c2 : wr.cell? ⟨r, 2, none⟩ = some (.slice (some ⟨g, 0, none⟩) N cap1) := by rw [HNN.out]; exact hRj.c2
                    have hj' : (j : Int) < (N : Int) := by omega
                    have hp' : (0 : Int) < (y.pins : Int) := by omega
                    have HO1 := Lib.hid ho
                    clear hx hr hRj hpj ho
                    go_wp2
                    go_roundg (l.length - (j + 1))
                    case measure => omega
                    case rel => exact ⟨j + 1, by go_num, Lib.hid ⟨by omega, HO1.out⟩⟩
                  · have hje : j = l.length := by omega
                    subst hje
                    have hx : (l ++ x :: t)[l.length]? = some x := by simp
                    obtain ⟨g, cap', hv, hr⟩ := hRj.at hx
                    simp only [Value.slice.injEq] at hv
                    obtain ⟨rfl, -, rfl⟩ := hv
                    have c33 := RC.pinc hr
                    rw [HNX.out.2.1] at c33
                    have c2 : wr.cell? ⟨r, 2, none⟩ = some (.slice (some ⟨g, 0, none⟩) N cap1) := by rw [HNN.out]; exact hRj.c2
                    have hj' : (l.length : Int) < (N : Int) := by omega
                    have KD := Lib.hid (drop_any W wr r most room l t x _ _ hRj (by rw [← HNN.out]; exact hN64))
                    have HO1 := Lib.hid ho
                    clear hx hr hRj ho
                    go_wp2_with fail
                    refine KD.out.mono ?_
                    rintro e w3 ⟨rfl, v', hr3, ho3, -, -⟩
                    have HN3 := Lib.hid (put_next HNX.out.2.2.2 HST.out HRQ.out.2 HO1.out hr3 ho3 HR.out)
                    have HLN := Lib.hid HNX.out.2.2.1
                    clear KD hr3 ho3 c2 c33
                    go_wp2
                    go_roundg (L1.length - 1)
                    case measure => have := HGG.out; have := HLN.out; omega
                    case rel => exact ⟨_, Lib.hid ⟨by have := HLN.out; omega, HN3.out⟩⟩
              · have oA' : ((L1.length : Int) == (most : Int)) = false := by rw [beq_eq_false_iff_ne]; omega
                have oA'' : (L1.length == most) = false := by rw [beq_eq_false_iff_ne]; omega
                have KBY := Lib.hid (rbytes_any W wr.drew r most room L1 _ ⟨_, _, HRL.out, HRD.out⟩ (by omega) (by omega))
                by_cases oB : room < sB L1 + b.length
                · have hov : over most (room : Int) b.length L1 = true := by unfold over; rw [Bool.or_eq_true, decide_eq_true_iff, decide_eq_true_iff]; right; omega
                  have oB' : (room : Int) - (sB L1 : Int) < (b.length : Int) := by omega
                  obtain ⟨l, x, t, rfl, hlp, hxp, hln, hnext⟩ := HST.out.next HRL.out hov HF1.out.1 HF1.out.2
                  have HNX := Lib.hid (And.intro hlp (And.intro hxp (And.intro hln hnext)))
                  clear hov oA oB hlp hxp hln hnext hsl hss t8
                  go_wp2_with fail
                  refine wp_region_noPanic ?_
                  refine wp_region_held_drew (S := (fun w' => w'.cell? ⟨r, 0, none⟩ = some (.int .i64 (most : Int)) ∧ w'.cell? ⟨r, 1, none⟩ = some (.int .i64 (room : Int)) ∧ w'.cell? ⟨r, 2, none⟩ = some (.slice lo1 L1.length cap1))) (by kernel_rfl) (⟨x0, x1, x2⟩) (fun hHeld => ?_)
                  refine wpAnyH_take (i := 0) (v := ?_) rfl (by kernel_rfl) (by kernel_rfl) (by kernel_rfl) (fun _ _ _ h => h) (Or.inl ⟨by rfl, ?_⟩) (by assumption) ?_
                  rotate_left
                  · ((intro w hSw); (first | (go_simp; done) | (go_simp; with_reducible rfl)))
                  (try simp only [Act.put, List.setIfInBounds_toArray, List.set_cons_zero, List.set_cons_succ, List.getElem_toArray, List.getElem_cons_succ, List.getElem_cons_zero])
                  refine wpAnyH_take (i := 1) (v := ?_) rfl (by kernel_rfl) (by kernel_rfl) (by kernel_rfl) (fun _ _ _ h => h) (Or.inl ⟨by rfl, ?_⟩) (by assumption) ?_
                  rotate_left
                  · ((intro w hSw); (first | (go_simp; done) | (go_simp; with_reducible rfl)))
                  (try simp only [Act.put, List.setIfInBounds_toArray, List.set_cons_zero, List.set_cons_succ, List.getElem_toArray, List.getElem_cons_succ, List.getElem_cons_zero])
                  refine wpAnyH_take (i := 2) (v := ?_) rfl (by kernel_rfl) (by kernel_rfl) (by kernel_rfl) (fun _ _ _ h => h) (Or.inl ⟨by rfl, ?_⟩) (by assumption) ?_
                  rotate_left
                  · ((intro w hSw); (first | (go_simp; done) | (go_simp; with_reducible rfl)))
                  (try simp only [Act.put, List.setIfInBounds_toArray, List.set_cons_zero, List.set_cons_succ, List.getElem_toArray, List.getElem_cons_succ, List.getElem_cons_zero])
                  refine wpAnyH_take (i := 3) (v := ?_) rfl (by kernel_rfl) (by kernel_rfl) (by kernel_rfl) (fun _ _ _ h => h) (Or.inl ⟨by rfl, ?_⟩) (by assumption) ?_
                  rotate_left
                  · ((intro w hSw); (first | (go_simp; done) | (go_simp; with_reducible rfl)))
                  (try simp only [Act.put, List.setIfInBounds_toArray, List.set_cons_zero, List.set_cons_succ, List.getElem_toArray, List.getElem_cons_succ, List.getElem_cons_zero])
                  refine wpAnyH_take (i := 4) (v := ?_) rfl (by kernel_rfl) (by kernel_rfl) (by kernel_rfl) (fun _ _ _ h => h) (Or.inl ⟨by rfl, ?_⟩) (by assumption) ?_
                  rotate_left
                  · ((intro w hSw); (first | (go_simp; done) | (go_simp; with_reducible rfl)))
                  (try simp only [Act.put, List.setIfInBounds_toArray, List.set_cons_zero, List.set_cons_succ, List.getElem_toArray, List.getElem_cons_succ, List.getElem_cons_zero])
                  refine wpAnyH_take (i := 5) (v := ?_) rfl (by kernel_rfl) (by kernel_rfl) (by kernel_rfl) (fun _ _ _ h => h) (Or.inl ⟨by rfl, ?_⟩) (by assumption) ?_
                  rotate_left
                  · ((intro w hSw); (first | (go_simp; done) | (go_simp; with_reducible rfl)))
                  (try simp only [Act.put, List.setIfInBounds_toArray, List.set_cons_zero, List.set_cons_succ, List.getElem_toArray, List.getElem_cons_succ, List.getElem_cons_zero])
                  refine wpAnyH_take (i := 6) (v := ?_) rfl (by kernel_rfl) (by kernel_rfl) (by kernel_rfl) (fun _ _ _ h => h) (Or.inl ⟨by rfl, ?_⟩) (by assumption) ?_
                  rotate_left
                  · ((intro w hSw); (first | (go_simp; done) | (go_simp; with_reducible rfl)))
                  (try simp only [Act.put, List.setIfInBounds_toArray, List.set_cons_zero, List.set_cons_succ, List.getElem_toArray, List.getElem_cons_succ, List.getElem_cons_zero])
                  refine wpAnyH_take (i := 7) (v := ?_) rfl (by kernel_rfl) (by kernel_rfl) (by kernel_rfl) (fun _ _ _ h => h) (Or.inl ⟨by rfl, ?_⟩) (by assumption) ?_
                  rotate_left
                  · ((intro w hSw); (first | (go_simp; done) | (go_simp; with_reducible rfl)))
                  (try simp only [Act.put, List.setIfInBounds_toArray, List.set_cons_zero, List.set_cons_succ, List.getElem_toArray, List.getElem_cons_succ, List.getElem_cons_zero])
                  refine wpAnyH_take (i := 8) (v := ?_) rfl (by kernel_rfl) (by kernel_rfl) (by kernel_rfl) (fun _ _ _ h => h) (Or.inl ⟨by rfl, ?_⟩) (by assumption) ?_
                  rotate_left
                  · ((intro w hSw); (first | (go_simp; done) | (go_simp; with_reducible rfl)))
                  (try simp only [Act.put, List.setIfInBounds_toArray, List.set_cons_zero, List.set_cons_succ, List.getElem_toArray, List.getElem_cons_succ, List.getElem_cons_zero])
                  refine wpAnyH_take (i := 9) (v := ?_) rfl (by kernel_rfl) (by kernel_rfl) (by kernel_rfl) (fun _ _ _ h => h) (Or.inl ⟨by rfl, ?_⟩) (by assumption) ?_
                  rotate_left
                  · ((intro w hSw); (first | (go_simp; done) | (go_simp; with_reducible rfl)))
                  (try simp only [Act.put, List.setIfInBounds_toArray, List.set_cons_zero, List.set_cons_succ, List.getElem_toArray, List.getElem_cons_succ, List.getElem_cons_zero])
                  refine wpAnyH_take (i := 10) (v := ?_) rfl (by kernel_rfl) (by kernel_rfl) (by kernel_rfl) (fun _ _ _ h => h) (Or.inl ⟨by rfl, ?_⟩) (by assumption) ?_
                  rotate_left
                  · ((intro w hSw); (first | (go_simp; done) | (go_simp; with_reducible rfl)))
                  (try simp only [Act.put, List.setIfInBounds_toArray, List.set_cons_zero, List.set_cons_succ, List.getElem_toArray, List.getElem_cons_succ, List.getElem_cons_zero])
                  refine wpAnyH_take (i := 11) (v := ?_) rfl (by kernel_rfl) (by kernel_rfl) (by kernel_rfl) (fun _ _ _ h => h) (Or.inl ⟨by rfl, ?_⟩) (by assumption) ?_
                  rotate_left
                  · ((intro w hSw); (first | (go_simp; done) | (go_simp; with_reducible rfl)))
                  (try simp only [Act.put, List.setIfInBounds_toArray, List.set_cons_zero, List.set_cons_succ, List.getElem_toArray, List.getElem_cons_succ, List.getElem_cons_zero])
                  refine wpAnyH_take (i := 12) (v := ?_) rfl (by kernel_rfl) (by kernel_rfl) (by kernel_rfl) (fun _ _ _ h => h) (Or.inl ⟨by rfl, ?_⟩) (by assumption) ?_
                  rotate_left
                  · ((intro w hSw); (first | (go_simp; done) | (go_simp; with_reducible rfl)))
                  (try simp only [Act.put, List.setIfInBounds_toArray, List.set_cons_zero, List.set_cons_succ, List.getElem_toArray, List.getElem_cons_succ, List.getElem_cons_zero])
                  refine wpAnyH_take (i := 13) (v := ?_) rfl (by kernel_rfl) (by kernel_rfl) (by kernel_rfl) (fun _ _ _ h => h) (Or.inl ⟨by rfl, ?_⟩) (by assumption) ?_
                  rotate_left
                  · ((intro w hSw); (first | (go_simp; done) | (go_simp; with_reducible rfl)))
                  (try simp only [Act.put, List.setIfInBounds_toArray, List.set_cons_zero, List.set_cons_succ, List.getElem_toArray, List.getElem_cons_succ, List.getElem_cons_zero])
                  refine wpAnyH_take (i := 14) (v := ?_) rfl (by kernel_rfl) (by kernel_rfl) (by kernel_rfl) (fun _ _ _ h => h) (Or.inl ⟨by rfl, ?_⟩) (by assumption) ?_
                  rotate_left
                  · ((intro w hSw); (first | (go_simp; done) | (go_simp; with_reducible rfl)))
                  (try simp only [Act.put, List.setIfInBounds_toArray, List.set_cons_zero, List.set_cons_succ, List.getElem_toArray, List.getElem_cons_succ, List.getElem_cons_zero])
                  refine wpAnyH_take (i := 15) (v := ?_) rfl (by kernel_rfl) (by kernel_rfl) (by kernel_rfl) (fun _ _ _ h => h) (Or.inl ⟨by rfl, ?_⟩) (by assumption) ?_
                  rotate_left
                  · ((intro w hSw); (first | (go_simp; done) | (go_simp; with_reducible rfl)))
                  (try simp only [Act.put, List.setIfInBounds_toArray, List.set_cons_zero, List.set_cons_succ, List.getElem_toArray, List.getElem_cons_succ, List.getElem_cons_zero])
                  refine wpAnyH_take (i := 16) (v := ?_) rfl (by kernel_rfl) (by kernel_rfl) (by kernel_rfl) (fun _ _ _ h => h) (Or.inl ⟨by rfl, ?_⟩) (by assumption) ?_
                  rotate_left
                  · ((intro w hSw); (first | (go_simp; done) | (go_simp; with_reducible rfl)))
                  (try simp only [Act.put, List.setIfInBounds_toArray, List.set_cons_zero, List.set_cons_succ, List.getElem_toArray, List.getElem_cons_succ, List.getElem_cons_zero])
                  refine wpAnyH_take (i := 17) (v := ?_) rfl (by kernel_rfl) (by kernel_rfl) (by kernel_rfl) (fun _ _ _ h => h) (Or.inl ⟨by rfl, ?_⟩) (by assumption) ?_
                  rotate_left
                  · ((intro w hSw); (first | (go_simp; done) | (go_simp; with_reducible rfl)))
                  (try simp only [Act.put, List.setIfInBounds_toArray, List.set_cons_zero, List.set_cons_succ, List.getElem_toArray, List.getElem_cons_succ, List.getElem_cons_zero])
                  refine wpAnyH_ready (rs := [18]) (by kernel_rfl) (by simp) ?_
                  refine AllReadyH.cons rfl (fun K hK => ?_) AllReadyH.nil
                  go_simp
                  (go_at_call 37; refine KBY.out.mono ?_; rintro e wq ⟨rfl, hob⟩; have HOB := Lib.hid hob; have y0 := hob.cell x0 (fun h => h); have y1 := hob.cell x1 (fun h => h); have y2 := hob.cell x2 (fun h => h); clear hob KBY x0 x1 x2)
                  (try go_wp2_with fail)
                  refine hK.out _ _ (⟨y0, y1, y2⟩) (fun hHeld => ?_)
                  clear hK K
                  (try simp only [Act.put, List.setIfInBounds_toArray, List.set_cons_zero, List.set_cons_succ, List.getElem_toArray, List.getElem_cons_succ, List.getElem_cons_zero])
                  refine wpAnyH_take (i := 19) (v := ?_) rfl (by kernel_rfl) (by kernel_rfl) (by kernel_rfl) (fun _ _ _ h => h) (Or.inl ⟨by rfl, ?_⟩) (by assumption) ?_
                  rotate_left
                  · ((intro w hSw); (first | (go_simp; done) | (go_simp; with_reducible rfl)))
                  (try simp only [Act.put, List.setIfInBounds_toArray, List.set_cons_zero, List.set_cons_succ, List.getElem_toArray, List.getElem_cons_succ, List.getElem_cons_zero])
                  refine wpAnyH_take (i := 20) (v := ?_) rfl (by kernel_rfl) (by kernel_rfl) (by kernel_rfl) (fun _ _ _ h => h) (Or.inl ⟨by rfl, ?_⟩) (by assumption) ?_
                  rotate_left
                  · ((intro w hSw); (first | (go_simp; done) | (go_simp; with_reducible rfl)))
                  (try simp only [Act.put, List.setIfInBounds_toArray, List.set_cons_zero, List.set_cons_succ, List.getElem_toArray, List.getElem_cons_succ, List.getElem_cons_zero])
                  refine wpAnyH_take (i := 21) (v := ?_) rfl (by kernel_rfl) (by kernel_rfl) (by kernel_rfl) (fun _ _ _ h => h) (Or.inl ⟨by rfl, ?_⟩) (by assumption) ?_
                  rotate_left
                  · ((intro w hSw); (first | (go_simp; done) | (go_simp; with_reducible rfl)))
                  (try simp only [Act.put, List.setIfInBounds_toArray, List.set_cons_zero, List.set_cons_succ, List.getElem_toArray, List.getElem_cons_succ, List.getElem_cons_zero])
                  refine wpAnyH_done (by kernel_rfl) ?_ _
                  refine NoPanic.normal ?_
                  have HRQ := Lib.hid (And.intro (HRD.out.only HOB.out) ((Only.refl (fun _ => False) wr).drew.trans HOB.out))
                  clear y0 y1 y2 HRD oA' oA'' oB' hwr HOB
                  obtain ⟨N, hNN⟩ : ∃ N, N = (l ++ x :: t).length := ⟨_, rfl⟩
                  have hlN : l.length + 1 + t.length = N := by rw [hNN]; simp; omega
                  have c2 : wq.cell? ⟨r, 2, none⟩ = some (.slice lo1 N cap1) := by rw [hNN]; exact HRQ.out.1.c2
                  have hN64 : N ≤ 1000000 := by have h1 := HST.out.len; have h2 := HL1.out; have h3 := HKK.out.2.2.2.1; omega
                  have HNN := Lib.hid hNN; clear hNN
                  go_wp2_with fail
                  go_loopg [13] l.length (fun gg v13 wl => ∃ j : Nat, v13 = .int .i64 j ∧ Hid (j + gg = l.length ∧ Only (fun _ => False) wq wl))
                  case atStart => exact ⟨0, rfl, Lib.hid ⟨by omega, Only.refl _ _⟩⟩
                  case round =>
                    obtain ⟨j, rfl, hh⟩ := hrel
                    obtain ⟨hjg, ho⟩ := hh.out
                    clear hh c2
                    have hRj := HRQ.out.1.only ho
                    have b0 : (0 : Int) ≤ j := by omega
                    by_cases hj : j < l.length
                    · have hx : (l ++ x :: t)[j]? = some l[j] := by rw [List.getElem?_append_left hj]; exact List.getElem?_eq_getElem hj
                      have hpj := HNX.out.1 l[j] (List.getElem_mem hj)
                      obtain ⟨g, cap', hv, hr⟩ := hRj.at hx
                      simp only [Value.slice.injEq] at hv
                      obtain ⟨rfl, -, rfl⟩ := hv
                      generalize l[j] = y at *
                      have c33 := RC.pinc hr
                      have c2 : wr.cell? ⟨r, 2, none⟩ = some (.slice (some ⟨g, 0, none⟩) N cap1) := by rw [HNN.out]; exact hRj.c2
                      have hj' : (j : Int) < (N : Int) := by omega
                      have hp' : (0 : Int) < (y.pins : Int) := by omega
                      have HO1 := Lib.hid ho
                      clear hx hr hRj hpj ho
                      go_wp2
                      go_roundg (l.length - (j + 1))
                      case measure => omega
                      case rel => exact ⟨j + 1, by go_num, Lib.hid ⟨by omega, HO1.out⟩⟩
                    · have hje : j = l.length := by omega
                      subst hje
                      have hx : (l ++ x :: t)[l.length]? = some x := by simp
                      obtain ⟨g, cap', hv, hr⟩ := hRj.at hx
                      simp only [Value.slice.injEq] at hv
                      obtain ⟨rfl, -, rfl⟩ := hv
                      have c33 := RC.pinc hr
                      rw [HNX.out.2.1] at c33
                      have c2 : wr.cell? ⟨r, 2, none⟩ = some (.slice (some ⟨g, 0, none⟩) N cap1) := by rw [HNN.out]; exact hRj.c2
                      have hj' : (l.length : Int) < (N : Int) := by omega
                      have KD := Lib.hid (drop_any W wr r most room l t x _ _ hRj (by rw [← HNN.out]; exact hN64))
                      have HO1 := Lib.hid ho
                      clear hx hr hRj ho
                      go_wp2_with fail
                      refine KD.out.mono ?_
                      rintro e w3 ⟨rfl, v', hr3, ho3, -, -⟩
                      have HN3 := Lib.hid (put_next HNX.out.2.2.2 HST.out HRQ.out.2 HO1.out hr3 ho3 HR.out)
                      have HLN := Lib.hid HNX.out.2.2.1
                      clear KD hr3 ho3 c2 c33
                      go_wp2
                      go_roundg (L1.length - 1)
                      case measure => have := HGG.out; have := HLN.out; omega
                      case rel => exact ⟨_, Lib.hid ⟨by have := HLN.out; omega, HN3.out⟩⟩
                · have hov : over most (room : Int) b.length L1 = false := by unfold over; rw [Bool.or_eq_false_iff, decide_eq_false_iff_not, decide_eq_false_iff_not]; omega
                  have oB' : decide ((room : Int) - (sB L1 : Int) < (b.length : Int)) = false := decide_eq_false (by omega)
                  have HOV := Lib.hid hov
                  clear hov oA oB hsl hss t8
                  go_wp2_with fail
                  refine wp_region_noPanic ?_
                  refine wp_region_held_drew (S := (fun w' => w'.cell? ⟨r, 0, none⟩ = some (.int .i64 (most : Int)) ∧ w'.cell? ⟨r, 1, none⟩ = some (.int .i64 (room : Int)) ∧ w'.cell? ⟨r, 2, none⟩ = some (.slice lo1 L1.length cap1))) (by kernel_rfl) (⟨x0, x1, x2⟩) (fun hHeld => ?_)
                  refine wpAnyH_take (i := 0) (v := ?_) rfl (by kernel_rfl) (by kernel_rfl) (by kernel_rfl) (fun _ _ _ h => h) (Or.inl ⟨by rfl, ?_⟩) (by assumption) ?_
                  rotate_left
                  · ((intro w hSw); (first | (go_simp; done) | (go_simp; with_reducible rfl)))
                  (try simp only [Act.put, List.setIfInBounds_toArray, List.set_cons_zero, List.set_cons_succ, List.getElem_toArray, List.getElem_cons_succ, List.getElem_cons_zero])
                  refine wpAnyH_take (i := 1) (v := ?_) rfl (by kernel_rfl) (by kernel_rfl) (by kernel_rfl) (fun _ _ _ h => h) (Or.inl ⟨by rfl, ?_⟩) (by assumption) ?_
                  rotate_left
                  · ((intro w hSw); (first | (go_simp; done) | (go_simp; with_reducible rfl)))
                  (try simp only [Act.put, List.setIfInBounds_toArray, List.set_cons_zero, List.set_cons_succ, List.getElem_toArray, List.getElem_cons_succ, List.getElem_cons_zero])
                  refine wpAnyH_take (i := 2) (v := ?_) rfl (by kernel_rfl) (by kernel_rfl) (by kernel_rfl) (fun _ _ _ h => h) (Or.inl ⟨by rfl, ?_⟩) (by assumption) ?_
                  rotate_left
                  · ((intro w hSw); (first | (go_simp; done) | (go_simp; with_reducible rfl)))
                  (try simp only [Act.put, List.setIfInBounds_toArray, List.set_cons_zero, List.set_cons_succ, List.getElem_toArray, List.getElem_cons_succ, List.getElem_cons_zero])
                  refine wpAnyH_take (i := 3) (v := ?_) rfl (by kernel_rfl) (by kernel_rfl) (by kernel_rfl) (fun _ _ _ h => h) (Or.inl ⟨by rfl, ?_⟩) (by assumption) ?_
                  rotate_left
                  · ((intro w hSw); (first | (go_simp; done) | (go_simp; with_reducible rfl)))
                  (try simp only [Act.put, List.setIfInBounds_toArray, List.set_cons_zero, List.set_cons_succ, List.getElem_toArray, List.getElem_cons_succ, List.getElem_cons_zero])
                  refine wpAnyH_take (i := 4) (v := ?_) rfl (by kernel_rfl) (by kernel_rfl) (by kernel_rfl) (fun _ _ _ h => h) (Or.inl ⟨by rfl, ?_⟩) (by assumption) ?_
                  rotate_left
                  · ((intro w hSw); (first | (go_simp; done) | (go_simp; with_reducible rfl)))
                  (try simp only [Act.put, List.setIfInBounds_toArray, List.set_cons_zero, List.set_cons_succ, List.getElem_toArray, List.getElem_cons_succ, List.getElem_cons_zero])
                  refine wpAnyH_take (i := 5) (v := ?_) rfl (by kernel_rfl) (by kernel_rfl) (by kernel_rfl) (fun _ _ _ h => h) (Or.inl ⟨by rfl, ?_⟩) (by assumption) ?_
                  rotate_left
                  · ((intro w hSw); (first | (go_simp; done) | (go_simp; with_reducible rfl)))
                  (try simp only [Act.put, List.setIfInBounds_toArray, List.set_cons_zero, List.set_cons_succ, List.getElem_toArray, List.getElem_cons_succ, List.getElem_cons_zero])
                  refine wpAnyH_take (i := 6) (v := ?_) rfl (by kernel_rfl) (by kernel_rfl) (by kernel_rfl) (fun _ _ _ h => h) (Or.inl ⟨by rfl, ?_⟩) (by assumption) ?_
                  rotate_left
                  · ((intro w hSw); (first | (go_simp; done) | (go_simp; with_reducible rfl)))
                  (try simp only [Act.put, List.setIfInBounds_toArray, List.set_cons_zero, List.set_cons_succ, List.getElem_toArray, List.getElem_cons_succ, List.getElem_cons_zero])
                  refine wpAnyH_take (i := 7) (v := ?_) rfl (by kernel_rfl) (by kernel_rfl) (by kernel_rfl) (fun _ _ _ h => h) (Or.inl ⟨by rfl, ?_⟩) (by assumption) ?_
                  rotate_left
                  · ((intro w hSw); (first | (go_simp; done) | (go_simp; with_reducible rfl)))
                  (try simp only [Act.put, List.setIfInBounds_toArray, List.set_cons_zero, List.set_cons_succ, List.getElem_toArray, List.getElem_cons_succ, List.getElem_cons_zero])
                  refine wpAnyH_take (i := 8) (v := ?_) rfl (by kernel_rfl) (by kernel_rfl) (by kernel_rfl) (fun _ _ _ h => h) (Or.inl ⟨by rfl, ?_⟩) (by assumption) ?_
                  rotate_left
                  · ((intro w hSw); (first | (go_simp; done) | (go_simp; with_reducible rfl)))
                  (try simp only [Act.put, List.setIfInBounds_toArray, List.set_cons_zero, List.set_cons_succ, List.getElem_toArray, List.getElem_cons_succ, List.getElem_cons_zero])
                  refine wpAnyH_take (i := 9) (v := ?_) rfl (by kernel_rfl) (by kernel_rfl) (by kernel_rfl) (fun _ _ _ h => h) (Or.inl ⟨by rfl, ?_⟩) (by assumption) ?_
                  rotate_left
                  · ((intro w hSw); (first | (go_simp; done) | (go_simp; with_reducible rfl)))
                  (try simp only [Act.put, List.setIfInBounds_toArray, List.set_cons_zero, List.set_cons_succ, List.getElem_toArray, List.getElem_cons_succ, List.getElem_cons_zero])
                  refine wpAnyH_take (i := 10) (v := ?_) rfl (by kernel_rfl) (by kernel_rfl) (by kernel_rfl) (fun _ _ _ h => h) (Or.inl ⟨by rfl, ?_⟩) (by assumption) ?_
                  rotate_left
                  · ((intro w hSw); (first | (go_simp; done) | (go_simp; with_reducible rfl)))
                  (try simp only [Act.put, List.setIfInBounds_toArray, List.set_cons_zero, List.set_cons_succ, List.getElem_toArray, List.getElem_cons_succ, List.getElem_cons_zero])
                  refine wpAnyH_take (i := 11) (v := ?_) rfl (by kernel_rfl) (by kernel_rfl) (by kernel_rfl) (fun _ _ _ h => h) (Or.inl ⟨by rfl, ?_⟩) (by assumption) ?_
                  rotate_left
                  · ((intro w hSw); (first | (go_simp; done) | (go_simp; with_reducible rfl)))
                  (try simp only [Act.put, List.setIfInBounds_toArray, List.set_cons_zero, List.set_cons_succ, List.getElem_toArray, List.getElem_cons_succ, List.getElem_cons_zero])
                  refine wpAnyH_take (i := 12) (v := ?_) rfl (by kernel_rfl) (by kernel_rfl) (by kernel_rfl) (fun _ _ _ h => h) (Or.inl ⟨by rfl, ?_⟩) (by assumption) ?_
                  rotate_left
                  · ((intro w hSw); (first | (go_simp; done) | (go_simp; with_reducible rfl)))
                  (try simp only [Act.put, List.setIfInBounds_toArray, List.set_cons_zero, List.set_cons_succ, List.getElem_toArray, List.getElem_cons_succ, List.getElem_cons_zero])
                  refine wpAnyH_take (i := 13) (v := ?_) rfl (by kernel_rfl) (by kernel_rfl) (by kernel_rfl) (fun _ _ _ h => h) (Or.inl ⟨by rfl, ?_⟩) (by assumption) ?_
                  rotate_left
                  · ((intro w hSw); (first | (go_simp; done) | (go_simp; with_reducible rfl)))
                  (try simp only [Act.put, List.setIfInBounds_toArray, List.set_cons_zero, List.set_cons_succ, List.getElem_toArray, List.getElem_cons_succ, List.getElem_cons_zero])
                  refine wpAnyH_take (i := 14) (v := ?_) rfl (by kernel_rfl) (by kernel_rfl) (by kernel_rfl) (fun _ _ _ h => h) (Or.inl ⟨by rfl, ?_⟩) (by assumption) ?_
                  rotate_left
                  · ((intro w hSw); (first | (go_simp; done) | (go_simp; with_reducible rfl)))
                  (try simp only [Act.put, List.setIfInBounds_toArray, List.set_cons_zero, List.set_cons_succ, List.getElem_toArray, List.getElem_cons_succ, List.getElem_cons_zero])
                  refine wpAnyH_take (i := 15) (v := ?_) rfl (by kernel_rfl) (by kernel_rfl) (by kernel_rfl) (fun _ _ _ h => h) (Or.inl ⟨by rfl, ?_⟩) (by assumption) ?_
                  rotate_left
                  · ((intro w hSw); (first | (go_simp; done) | (go_simp; with_reducible rfl)))
                  (try simp only [Act.put, List.setIfInBounds_toArray, List.set_cons_zero, List.set_cons_succ, List.getElem_toArray, List.getElem_cons_succ, List.getElem_cons_zero])
                  refine wpAnyH_take (i := 16) (v := ?_) rfl (by kernel_rfl) (by kernel_rfl) (by kernel_rfl) (fun _ _ _ h => h) (Or.inl ⟨by rfl, ?_⟩) (by assumption) ?_
                  rotate_left
                  · ((intro w hSw); (first | (go_simp; done) | (go_simp; with_reducible rfl)))
                  (try simp only [Act.put, List.setIfInBounds_toArray, List.set_cons_zero, List.set_cons_succ, List.getElem_toArray, List.getElem_cons_succ, List.getElem_cons_zero])
                  refine wpAnyH_take (i := 17) (v := ?_) rfl (by kernel_rfl) (by kernel_rfl) (by kernel_rfl) (fun _ _ _ h => h) (Or.inl ⟨by rfl, ?_⟩) (by assumption) ?_
                  rotate_left
                  · ((intro w hSw); (first | (go_simp; done) | (go_simp; with_reducible rfl)))
                  (try simp only [Act.put, List.setIfInBounds_toArray, List.set_cons_zero, List.set_cons_succ, List.getElem_toArray, List.getElem_cons_succ, List.getElem_cons_zero])
                  refine wpAnyH_ready (rs := [18]) (by kernel_rfl) (by simp) ?_
                  refine AllReadyH.cons rfl (fun K hK => ?_) AllReadyH.nil
                  go_simp
                  (go_at_call 37; refine KBY.out.mono ?_; rintro e wq ⟨rfl, hob⟩; have HOB := Lib.hid hob; have y0 := hob.cell x0 (fun h => h); have y1 := hob.cell x1 (fun h => h); have y2 := hob.cell x2 (fun h => h); clear hob KBY x0 x1 x2)
                  (try go_wp2_with fail)
                  refine hK.out _ _ (⟨y0, y1, y2⟩) (fun hHeld => ?_)
                  clear hK K
                  (try simp only [Act.put, List.setIfInBounds_toArray, List.set_cons_zero, List.set_cons_succ, List.getElem_toArray, List.getElem_cons_succ, List.getElem_cons_zero])
                  refine wpAnyH_take (i := 19) (v := ?_) rfl (by kernel_rfl) (by kernel_rfl) (by kernel_rfl) (fun _ _ _ h => h) (Or.inl ⟨by rfl, ?_⟩) (by assumption) ?_
                  rotate_left
                  · ((intro w hSw); (first | (go_simp; done) | (go_simp; with_reducible rfl)))
                  (try simp only [Act.put, List.setIfInBounds_toArray, List.set_cons_zero, List.set_cons_succ, List.getElem_toArray, List.getElem_cons_succ, List.getElem_cons_zero])
                  refine wpAnyH_take (i := 20) (v := ?_) rfl (by kernel_rfl) (by kernel_rfl) (by kernel_rfl) (fun _ _ _ h => h) (Or.inl ⟨by rfl, ?_⟩) (by assumption) ?_
                  rotate_left
                  · ((intro w hSw); (first | (go_simp; done) | (go_simp; with_reducible rfl)))
                  (try simp only [Act.put, List.setIfInBounds_toArray, List.set_cons_zero, List.set_cons_succ, List.getElem_toArray, List.getElem_cons_succ, List.getElem_cons_zero])
                  refine wpAnyH_take (i := 21) (v := ?_) rfl (by kernel_rfl) (by kernel_rfl) (by kernel_rfl) (fun _ _ _ h => h) (Or.inl ⟨by rfl, ?_⟩) (by assumption) ?_
                  rotate_left
                  · ((intro w hSw); (first | (go_simp; done) | (go_simp; with_reducible rfl)))
                  (try simp only [Act.put, List.setIfInBounds_toArray, List.set_cons_zero, List.set_cons_succ, List.getElem_toArray, List.getElem_cons_succ, List.getElem_cons_zero])
                  refine wpAnyH_done (by kernel_rfl) ?_ _
                  refine NoPanic.normal ?_
                  have HRQ := Lib.hid (And.intro (HRD.out.only HOB.out) ((Only.refl (fun _ => False) wr).drew.trans HOB.out))
                  clear y0 y1 y2 HRD oA' oA'' oB' hwr HOB
                  go_wp2_with fail
                  have hl1 : R1.length ≤ 1000000 := by have h1 := HST.out.len; have h2 := HL1.out; have h3 := HKK.out.2.2.2.1; omega
                  have HK2 := Lib.hid hk
                  have HBR := Lib.hid (show w.heap.size ≠ r from by have := HR.out.lt; omega)
                  have hps0 : PS W wq.drew wq.drew r most room k w.heap.size R1 (.slice lo1 R1.length cap1) (grow G w wr) ao b := put_start HRQ.out.1 HRQ.out.2 HST.out HR.out
                  have HPS0 := Lib.hid hps0
                  have HREF0 := Lib.hid hps0
                  have HOD := Lib.hid (HRQ.out.2.trans (Only.refl (fun _ => False) wq).drew)
                  clear hps0
                  refine wp_region_noPanic ?_
                  refine wp_region_held_drew (S := (fun w' => w'.rangeAt w.heap.size 0 (sumC k))) (by kernel_rfl) (HPS0.out.box) (fun hHeld => ?_)
                  generalize hwd : wq.drew = wd at *
                  have HPS := HPS0
                  clear HPS0 hwd
                  refine wpAnyH_take (i := 0) (v := ?_) rfl (by kernel_rfl) (by kernel_rfl) (by kernel_rfl) (fun _ _ _ h => h) (Or.inl ⟨by rfl, ?_⟩) (by assumption) ?_
                  rotate_left
                  · ((intro w hSw); (first | (go_simp; done) | (go_simp; with_reducible rfl)))
                  (try simp only [Act.put, List.setIfInBounds_toArray, List.set_cons_zero, List.set_cons_succ, List.getElem_toArray, List.getElem_cons_succ, List.getElem_cons_zero])
                  refine wpAnyH_take (i := 2) (v := ?_) rfl (by kernel_rfl) (by kernel_rfl) (by kernel_rfl) (fun _ _ _ h => h) (Or.inl ⟨by rfl, ?_⟩) (by assumption) ?_
                  rotate_left
                  · ((intro w hSw); (first | (go_simp; done) | (go_simp; with_reducible rfl)))
                  (try simp only [Act.put, List.setIfInBounds_toArray, List.set_cons_zero, List.set_cons_succ, List.getElem_toArray, List.getElem_cons_succ, List.getElem_cons_zero])
                  refine wpAnyH_take (i := 3) (v := ?_) rfl (by kernel_rfl) (by kernel_rfl) (by kernel_rfl) (fun _ _ _ h => h) (Or.inl ⟨by rfl, ?_⟩) (by assumption) ?_
                  rotate_left
                  · ((intro w hSw); (first | (go_simp; done) | (go_simp; with_reducible rfl)))
                  (try simp only [Act.put, List.setIfInBounds_toArray, List.set_cons_zero, List.set_cons_succ, List.getElem_toArray, List.getElem_cons_succ, List.getElem_cons_zero])
                  refine wpAnyH_take (i := 4) (v := ?_) rfl (by kernel_rfl) (by kernel_rfl) (by kernel_rfl) (fun _ _ _ h => h) (Or.inl ⟨by rfl, ?_⟩) (by assumption) ?_
                  rotate_left
                  · ((intro w hSw); (first | (go_simp; done) | (go_simp; with_reducible rfl)))
                  (try simp only [Act.put, List.setIfInBounds_toArray, List.set_cons_zero, List.set_cons_succ, List.getElem_toArray, List.getElem_cons_succ, List.getElem_cons_zero])
                  refine wpAnyH_take (i := 7) (v := .agg (sumC k).toArray) rfl (by kernel_rfl) (by kernel_rfl) (by kernel_rfl) (fun _ _ _ h => h) (yieldsIf_load_mid (by rfl) 38 _ rfl w.heap.size 0 (by rfl) (sumC k) _ (fun w h => h) under38 rfl HI.out) (by assumption) ?_
                  (try simp only [Act.put, List.setIfInBounds_toArray, List.set_cons_zero, List.set_cons_succ, List.getElem_toArray, List.getElem_cons_succ, List.getElem_cons_zero])
                  refine wpAnyH_take (i := 9) (v := ?_) rfl (by kernel_rfl) (by kernel_rfl) (by kernel_rfl) (fun _ _ _ h => h) (Or.inl ⟨by rfl, ?_⟩) (by assumption) ?_
                  rotate_left
                  · ((intro w hSw); (first | (go_simp; done) | (go_simp; with_reducible rfl)))
                  (try simp only [Act.put, List.setIfInBounds_toArray, List.set_cons_zero, List.set_cons_succ, List.getElem_toArray, List.getElem_cons_succ, List.getElem_cons_zero])
                  refine wpAnyH_ready (rs := [1, 5, 8]) (by kernel_rfl) (by simp) ?_
                  refine AllReadyH.cons rfl (fun K hK => ?_) (AllReadyH.cons rfl (fun K hK => ?_) (AllReadyH.cons rfl (fun K hK => ?_) (AllReadyH.nil)))
                  · go_simp
                    have hps := HPS.out.only ((Only.refl (fun _ => False) wd).alloc (.cells #[] 81))
                    have HE1 := Lib.hid (own_empty wd wd.heap.size 81 34 HPS.out.size)
                    generalize wd.alloc (.cells #[] 81) = n1 at *
                    replace HPS := Lib.hid hps
                    clear hps
                    refine hK.out _ _ (HPS.out.box) (fun hHeld => ?_)
                    clear hK K
                    (try simp only [Act.put, List.setIfInBounds_toArray, List.set_cons_zero, List.set_cons_succ, List.getElem_toArray, List.getElem_cons_succ, List.getElem_cons_zero])
                    refine wpAnyH_ready (rs := [5, 8]) (by kernel_rfl) (by simp) ?_
                    refine AllReadyH.cons rfl (fun K hK => ?_) (AllReadyH.cons rfl (fun K hK => ?_) (AllReadyH.nil))
                    · have x2 := HPS.out.ref.c2
                      go_simp
                      clear x2
                      refine hK.out _ _ (HPS.out.box) (fun hHeld => ?_)
                      clear hK K
                      (try simp only [Act.put, List.setIfInBounds_toArray, List.set_cons_zero, List.set_cons_succ, List.getElem_toArray, List.getElem_cons_succ, List.getElem_cons_zero])
                      refine wpAnyH_ready (rs := [6, 8]) (by kernel_rfl) (by simp) ?_
                      refine AllReadyH.cons rfl (fun K hK => ?_) (AllReadyH.cons rfl (fun K hK => ?_) (AllReadyH.nil))
                      · obtain ⟨v5, n6, hr6, ho6, hg6⟩ := HPS.out.copy HE1.out hl1
                        rw [if_pos (by rfl)]
                        refine wp_append_run (.tmp 115) (.tmp 119) 59 59 rfl rfl _ _ (by rfl) (by rfl) _ _ hr6 ?_
                        have hps := HPS.out.new (grown_beside HE1.out hg6)
                        have HC6 := Lib.hid ho6
                        replace HPS := Lib.hid hps
                        clear hps hr6 ho6 hg6 HE1
                        refine hK.out _ _ (HPS.out.box) (fun hHeld => ?_)
                        clear hK K
                        (try simp only [Act.put, List.setIfInBounds_toArray, List.set_cons_zero, List.set_cons_succ, List.getElem_toArray, List.getElem_cons_succ, List.getElem_cons_zero])
                        refine wpAnyH_ready (rs := [8]) (by kernel_rfl) (by simp) ?_
                        refine AllReadyH.cons rfl (fun K hK => ?_) (AllReadyH.nil)
                        go_simp
                        have hps := HPS.out.only ((Only.refl (fun _ => False) n6).alloc (.cells #[] 5))
                        have HE8 := Lib.hid (own_empty n6 wd.heap.size 5 1 HPS.out.size)
                        replace HC6 := Lib.hid (HC6.out.alloc (.cells #[] 5))
                        generalize n6.alloc (.cells #[] 5) = n8 at *
                        replace HPS := Lib.hid hps
                        clear hps
                        refine hK.out _ _ (HPS.out.box) (fun hHeld => ?_)
                        clear hK K
                        (try simp only [Act.put, List.setIfInBounds_toArray, List.set_cons_zero, List.set_cons_succ, List.getElem_toArray, List.getElem_cons_succ, List.getElem_cons_zero])
                        refine wpAnyH_ready (rs := [10]) (by kernel_rfl) (by simp) ?_
                        refine AllReadyH.cons rfl (fun K hK => ?_) (AllReadyH.nil)
                        obtain ⟨lo10, cap10, n10, hr10, ho10, hg10⟩ := bytes_app HE8.out HPS.out.dat capd hb HPS.out.size
                        rw [if_pos (by rfl)]
                        refine wp_append_run (.tmp 122) (.tmp 123) 22 22 rfl rfl _ _ (by rfl) (by rfl) _ _ hr10 ?_
                        have hps := HPS.out.new (grown_beside HE8.out hg10)
                        replace HC6 := Lib.hid (HC6.out.kept hg10 (own_diff HC6.out HE8.out (by decide)))
                        have HC10 := Lib.hid ho10
                        replace HPS := Lib.hid hps
                        clear hps hr10 ho10 hg10 HE8
                        refine hK.out _ _ (HPS.out.box) (fun hHeld => ?_)
                        clear hK K
                        (try simp only [Act.put, List.setIfInBounds_toArray, List.set_cons_zero, List.set_cons_succ, List.getElem_toArray, List.getElem_cons_succ, List.getElem_cons_zero])
                        refine wpAnyH_take (i := 11) (v := ?_) rfl (by kernel_rfl) (by kernel_rfl) (by kernel_rfl) (fun _ _ _ h => h) (Or.inl ⟨by rfl, ?_⟩) (by assumption) ?_
                        rotate_left
                        · ((intro w hSw); (first | (go_simp; done) | (go_simp; with_reducible rfl)))
                        (try simp only [Act.put, List.setIfInBounds_toArray, List.set_cons_zero, List.set_cons_succ, List.getElem_toArray, List.getElem_cons_succ, List.getElem_cons_zero])
                        refine wpAnyH_ready (rs := [12]) (by kernel_rfl) (by simp) ?_
                        refine AllReadyH.cons rfl (fun K hK => ?_) (AllReadyH.nil)
                        go_simp
                        refine hK.out _ _ ((HPS.out.only ((Only.refl (fun _ => False) n10).alloc _)).box) (fun hHeld => ?_)
                        clear hK K
                        (try simp only [Act.put, List.setIfInBounds_toArray, List.set_cons_zero, List.set_cons_succ, List.getElem_toArray, List.getElem_cons_succ, List.getElem_cons_zero])
                        refine wpAnyH_ready (rs := [13]) (by kernel_rfl) (by simp) ?_
                        refine AllReadyH.cons rfl (fun K hK => ?_) (AllReadyH.nil)
                        obtain ⟨lo13, cap13, n13, hr13, s1, s2, hbx, hfin⟩ := put_more (x := (⟨k, b, 0, lo10, cap10⟩ : RC)) rfl rfl rfl rfl rfl HPS.out HC6.out HC10.out HREF0.out hl1 HK2.out HBR.out
                        rw [if_pos (by rfl)]
                        refine wp_append_run (.tmp 120) (.tmp 126) 59 59 rfl rfl _ _ (by rfl) (by rfl) _ _ hr13 ?_
                        have HFIN := Lib.hid hfin
                        clear hr13 hfin
                        refine hK.out _ _ (hbx.1) (fun hHeld => ?_)
                        clear hK K
                        (try simp only [Act.put, List.setIfInBounds_toArray, List.set_cons_zero, List.set_cons_succ, List.getElem_toArray, List.getElem_cons_succ, List.getElem_cons_zero])
                        refine wpAnyH_take (i := 14) (v := ?_) rfl (by kernel_rfl) (by kernel_rfl) (by kernel_rfl) (fun _ _ _ h => h) (Or.inl ⟨by rfl, ?_⟩) (by assumption) ?_
                        rotate_left
                        · ((intro w hSw); (first | (go_simp; done) | (go_simp; with_reducible rfl)))
                        (try simp only [Act.put, List.setIfInBounds_toArray, List.set_cons_zero, List.set_cons_succ, List.getElem_toArray, List.getElem_cons_succ, List.getElem_cons_zero])
                        refine wpAnyH_take (i := 15) (v := ?_) rfl (by kernel_rfl) (by kernel_rfl) (by kernel_rfl) (fun _ _ _ h => h) (Or.inl ⟨by rfl, ?_⟩) (by assumption) ?_
                        rotate_left
                        · ((intro w hSw); (first | (go_simp; done) | (go_simp; with_reducible rfl)))
                        (try simp only [Act.put, List.setIfInBounds_toArray, List.set_cons_zero, List.set_cons_succ, List.getElem_toArray, List.getElem_cons_succ, List.getElem_cons_zero])
                        refine wpAnyH_ready (rs := [16]) (by kernel_rfl) (by simp) ?_
                        refine AllReadyH.cons rfl (fun K hK => ?_) (AllReadyH.nil)
                        go_simp
                        refine hK.out _ _ (hbx.2) (fun hHeld => ?_)
                        clear hK K
                        (try simp only [Act.put, List.setIfInBounds_toArray, List.set_cons_zero, List.set_cons_succ, List.getElem_toArray, List.getElem_cons_succ, List.getElem_cons_zero])
                        refine wpAnyH_done (by kernel_rfl) ?_ _
                        refine NoPanic.normal ?_
                        clear s1 s2 hbx
                        go_wp2
                        go_ret
                        exact put_end HN.out HF1.out HOV.out HST.out HOD.out HRL.out HFIN.out HR.out
                      · go_simp
                        have hps := HPS.out.only ((Only.refl (fun _ => False) n1).alloc (.cells #[] 5))
                        have HE8 := Lib.hid (own_empty n1 wd.heap.size 5 1 HPS.out.size)
                        replace HE1 := Lib.hid (HE1.out.alloc (.cells #[] 5))
                        generalize n1.alloc (.cells #[] 5) = n8 at *
                        replace HPS := Lib.hid hps
                        clear hps
                        refine hK.out _ _ (HPS.out.box) (fun hHeld => ?_)
                        clear hK K
                        (try simp only [Act.put, List.setIfInBounds_toArray, List.set_cons_zero, List.set_cons_succ, List.getElem_toArray, List.getElem_cons_succ, List.getElem_cons_zero])
                        refine wpAnyH_ready (rs := [6]) (by kernel_rfl) (by simp) ?_
                        refine AllReadyH.cons rfl (fun K hK => ?_) (AllReadyH.nil)
                        obtain ⟨v5, n6, hr6, ho6, hg6⟩ := HPS.out.copy HE1.out hl1
                        rw [if_pos (by rfl)]
                        refine wp_append_run (.tmp 115) (.tmp 119) 59 59 rfl rfl _ _ (by rfl) (by rfl) _ _ hr6 ?_
                        have hps := HPS.out.new (grown_beside HE1.out hg6)
                        replace HE8 := Lib.hid (HE8.out.kept hg6 (own_diff HE8.out HE1.out (by decide)))
                        have HC6 := Lib.hid ho6
                        replace HPS := Lib.hid hps
                        clear hps hr6 ho6 hg6 HE1
                        refine hK.out _ _ (HPS.out.box) (fun hHeld => ?_)
                        clear hK K
                        (try simp only [Act.put, List.setIfInBounds_toArray, List.set_cons_zero, List.set_cons_succ, List.getElem_toArray, List.getElem_cons_succ, List.getElem_cons_zero])
                        refine wpAnyH_ready (rs := [10]) (by kernel_rfl) (by simp) ?_
                        refine AllReadyH.cons rfl (fun K hK => ?_) (AllReadyH.nil)
                        obtain ⟨lo10, cap10, n10, hr10, ho10, hg10⟩ := bytes_app HE8.out HPS.out.dat capd hb HPS.out.size
                        rw [if_pos (by rfl)]
                        refine wp_append_run (.tmp 122) (.tmp 123) 22 22 rfl rfl _ _ (by rfl) (by rfl) _ _ hr10 ?_
                        have hps := HPS.out.new (grown_beside HE8.out hg10)
                        replace HC6 := Lib.hid (HC6.out.kept hg10 (own_diff HC6.out HE8.out (by decide)))
                        have HC10 := Lib.hid ho10
                        replace HPS := Lib.hid hps
                        clear hps hr10 ho10 hg10 HE8
                        refine hK.out _ _ (HPS.out.box) (fun hHeld => ?_)
                        clear hK K
                        (try simp only [Act.put, List.setIfInBounds_toArray, List.set_cons_zero, List.set_cons_succ, List.getElem_toArray, List.getElem_cons_succ, List.getElem_cons_zero])
                        refine wpAnyH_take (i := 11) (v := ?_) rfl (by kernel_rfl) (by kernel_rfl) (by kernel_rfl) (fun _ _ _ h => h) (Or.inl ⟨by rfl, ?_⟩) (by assumption) ?_
                        rotate_left
                        · ((intro w hSw); (first | (go_simp; done) | (go_simp; with_reducible rfl)))
                        (try simp only [Act.put, List.setIfInBounds_toArray, List.set_cons_zero, List.set_cons_succ, List.getElem_toArray, List.getElem_cons_succ, List.getElem_cons_zero])
                        refine wpAnyH_ready (rs := [12]) (by kernel_rfl) (by simp) ?_
                        refine AllReadyH.cons rfl (fun K hK => ?_) (AllReadyH.nil)
                        go_simp
                        refine hK.out _ _ ((HPS.out.only ((Only.refl (fun _ => False) n10).alloc _)).box) (fun hHeld => ?_)
                        clear hK K
                        (try simp only [Act.put, List.setIfInBounds_toArray, List.set_cons_zero, List.set_cons_succ, List.getElem_toArray, List.getElem_cons_succ, List.getElem_cons_zero])
                        refine wpAnyH_ready (rs := [13]) (by kernel_rfl) (by simp) ?_
                        refine AllReadyH.cons rfl (fun K hK => ?_) (AllReadyH.nil)
                        obtain ⟨lo13, cap13, n13, hr13, s1, s2, hbx, hfin⟩ := put_more (x := (⟨k, b, 0, lo10, cap10⟩ : RC)) rfl rfl rfl rfl rfl HPS.out HC6.out HC10.out HREF0.out hl1 HK2.out HBR.out
                        rw [if_pos (by rfl)]
                        refine wp_append_run (.tmp 120) (.tmp 126) 59 59 rfl rfl _ _ (by rfl) (by rfl) _ _ hr13 ?_
                        have HFIN := Lib.hid hfin
                        clear hr13 hfin
                        refine hK.out _ _ (hbx.1) (fun hHeld => ?_)
                        clear hK K
                        (try simp only [Act.put, List.setIfInBounds_toArray, List.set_cons_zero, List.set_cons_succ, List.getElem_toArray, List.getElem_cons_succ, List.getElem_cons_zero])
                        refine wpAnyH_take (i := 14) (v := ?_) rfl (by kernel_rfl) (by kernel_rfl) (by kernel_rfl) (fun _ _ _ h => h) (Or.inl ⟨by rfl, ?_⟩) (by assumption) ?_
                        rotate_left
                        · ((intro w hSw); (first | (go_simp; done) | (go_simp; with_reducible rfl)))
                        (try simp only [Act.put, List.setIfInBounds_toArray, List.set_cons_zero, List.set_cons_succ, List.getElem_toArray, List.getElem_cons_succ, List.getElem_cons_zero])
                        refine wpAnyH_take (i := 15) (v := ?_) rfl (by kernel_rfl) (by kernel_rfl) (by kernel_rfl) (fun _ _ _ h => h) (Or.inl ⟨by rfl, ?_⟩) (by assumption) ?_
                        rotate_left
                        · ((intro w hSw); (first | (go_simp; done) | (go_simp; with_reducible rfl)))
                        (try simp only [Act.put, List.setIfInBounds_toArray, List.set_cons_zero, List.set_cons_succ, List.getElem_toArray, List.getElem_cons_succ, List.getElem_cons_zero])
                        refine wpAnyH_ready (rs := [16]) (by kernel_rfl) (by simp) ?_
                        refine AllReadyH.cons rfl (fun K hK => ?_) (AllReadyH.nil)
                        go_simp
                        refine hK.out _ _ (hbx.2) (fun hHeld => ?_)
                        clear hK K
                        (try simp only [Act.put, List.setIfInBounds_toArray, List.set_cons_zero, List.set_cons_succ, List.getElem_toArray, List.getElem_cons_succ, List.getElem_cons_zero])
                        refine wpAnyH_done (by kernel_rfl) ?_ _
                        refine NoPanic.normal ?_
                        clear s1 s2 hbx
                        go_wp2
                        go_ret
                        exact put_end HN.out HF1.out HOV.out HST.out HOD.out HRL.out HFIN.out HR.out
                    · go_simp
                      have hps := HPS.out.only ((Only.refl (fun _ => False) n1).alloc (.cells #[] 5))
                      have HE8 := Lib.hid (own_empty n1 wd.heap.size 5 1 HPS.out.size)
                      replace HE1 := Lib.hid (HE1.out.alloc (.cells #[] 5))
                      generalize n1.alloc (.cells #[] 5) = n8 at *
                      replace HPS := Lib.hid hps
                      clear hps
                      refine hK.out _ _ (HPS.out.box) (fun hHeld => ?_)
                      clear hK K
                      (try simp only [Act.put, List.setIfInBounds_toArray, List.set_cons_zero, List.set_cons_succ, List.getElem_toArray, List.getElem_cons_succ, List.getElem_cons_zero])
                      refine wpAnyH_ready (rs := [5]) (by kernel_rfl) (by simp) ?_
                      refine AllReadyH.cons rfl (fun K hK => ?_) (AllReadyH.nil)
                      have x2 := HPS.out.ref.c2
                      go_simp
                      clear x2
                      refine hK.out _ _ (HPS.out.box) (fun hHeld => ?_)
                      clear hK K
                      (try simp only [Act.put, List.setIfInBounds_toArray, List.set_cons_zero, List.set_cons_succ, List.getElem_toArray, List.getElem_cons_succ, List.getElem_cons_zero])
                      refine wpAnyH_ready (rs := [6]) (by kernel_rfl) (by simp) ?_
                      refine AllReadyH.cons rfl (fun K hK => ?_) (AllReadyH.nil)
                      obtain ⟨v5, n6, hr6, ho6, hg6⟩ := HPS.out.copy HE1.out hl1
                      rw [if_pos (by rfl)]
                      refine wp_append_run (.tmp 115) (.tmp 119) 59 59 rfl rfl _ _ (by rfl) (by rfl) _ _ hr6 ?_
                      have hps := HPS.out.new (grown_beside HE1.out hg6)
                      replace HE8 := Lib.hid (HE8.out.kept hg6 (own_diff HE8.out HE1.out (by decide)))
                      have HC6 := Lib.hid ho6
                      replace HPS := Lib.hid hps
                      clear hps hr6 ho6 hg6 HE1
                      refine hK.out _ _ (HPS.out.box) (fun hHeld => ?_)
                      clear hK K
                      (try simp only [Act.put, List.setIfInBounds_toArray, List.set_cons_zero, List.set_cons_succ, List.getElem_toArray, List.getElem_cons_succ, List.getElem_cons_zero])
                      refine wpAnyH_ready (rs := [10]) (by kernel_rfl) (by simp) ?_
                      refine AllReadyH.cons rfl (fun K hK => ?_) (AllReadyH.nil)
                      obtain ⟨lo10, cap10, n10, hr10, ho10, hg10⟩ := bytes_app HE8.out HPS.out.dat capd hb HPS.out.size
                      rw [if_pos (by rfl)]
                      refine wp_append_run (.tmp 122) (.tmp 123) 22 22 rfl rfl _ _ (by rfl) (by rfl) _ _ hr10 ?_
                      have hps := HPS.out.new (grown_beside HE8.out hg10)
                      replace HC6 := Lib.hid (HC6.out.kept hg10 (own_diff HC6.out HE8.out (by decide)))
                      have HC10 := Lib.hid ho10
                      replace HPS := Lib.hid hps
                      clear hps hr10 ho10 hg10 HE8
                      refine hK.out _ _ (HPS.out.box) (fun hHeld => ?_)
                      clear hK K
                      (try simp only [Act.put, List.setIfInBounds_toArray, List.set_cons_zero, List.set_cons_succ, List.getElem_toArray, List.getElem_cons_succ, List.getElem_cons_zero])
                      refine wpAnyH_take (i := 11) (v := ?_) rfl (by kernel_rfl) (by kernel_rfl) (by kernel_rfl) (fun _ _ _ h => h) (Or.inl ⟨by rfl, ?_⟩) (by assumption) ?_
                      rotate_left
                      · ((intro w hSw); (first | (go_simp; done) | (go_simp; with_reducible rfl)))
                      (try simp only [Act.put, List.setIfInBounds_toArray, List.set_cons_zero, List.set_cons_succ, List.getElem_toArray, List.getElem_cons_succ, List.getElem_cons_zero])
                      refine wpAnyH_ready (rs := [12]) (by kernel_rfl) (by simp) ?_
                      refine AllReadyH.cons rfl (fun K hK => ?_) (AllReadyH.nil)
                      go_simp
                      refine hK.out _ _ ((HPS.out.only ((Only.refl (fun _ => False) n10).alloc _)).box) (fun hHeld => ?_)
                      clear hK K
                      (try simp only [Act.put, List.setIfInBounds_toArray, List.set_cons_zero, List.set_cons_succ, List.getElem_toArray, List.getElem_cons_succ, List.getElem_cons_zero])
                      refine wpAnyH_ready (rs := [13]) (by kernel_rfl) (by simp) ?_
                      refine AllReadyH.cons rfl (fun K hK => ?_) (AllReadyH.nil)
                      obtain ⟨lo13, cap13, n13, hr13, s1, s2, hbx, hfin⟩ := put_more (x := (⟨k, b, 0, lo10, cap10⟩ : RC)) rfl rfl rfl rfl rfl HPS.out HC6.out HC10.out HREF0.out hl1 HK2.out HBR.out
                      rw [if_pos (by rfl)]
                      refine wp_append_run (.tmp 120) (.tmp 126) 59 59 rfl rfl _ _ (by rfl) (by rfl) _ _ hr13 ?_
                      have HFIN := Lib.hid hfin
                      clear hr13 hfin
                      refine hK.out _ _ (hbx.1) (fun hHeld => ?_)
                      clear hK K
                      (try simp only [Act.put, List.setIfInBounds_toArray, List.set_cons_zero, List.set_cons_succ, List.getElem_toArray, List.getElem_cons_succ, List.getElem_cons_zero])
                      refine wpAnyH_take (i := 14) (v := ?_) rfl (by kernel_rfl) (by kernel_rfl) (by kernel_rfl) (fun _ _ _ h => h) (Or.inl ⟨by rfl, ?_⟩) (by assumption) ?_
                      rotate_left
                      · ((intro w hSw); (first | (go_simp; done) | (go_simp; with_reducible rfl)))
                      (try simp only [Act.put, List.setIfInBounds_toArray, List.set_cons_zero, List.set_cons_succ, List.getElem_toArray, List.getElem_cons_succ, List.getElem_cons_zero])
                      refine wpAnyH_take (i := 15) (v := ?_) rfl (by kernel_rfl) (by kernel_rfl) (by kernel_rfl) (fun _ _ _ h => h) (Or.inl ⟨by rfl, ?_⟩) (by assumption) ?_
                      rotate_left
                      · ((intro w hSw); (first | (go_simp; done) | (go_simp; with_reducible rfl)))
                      (try simp only [Act.put, List.setIfInBounds_toArray, List.set_cons_zero, List.set_cons_succ, List.getElem_toArray, List.getElem_cons_succ, List.getElem_cons_zero])
                      refine wpAnyH_ready (rs := [16]) (by kernel_rfl) (by simp) ?_
                      refine AllReadyH.cons rfl (fun K hK => ?_) (AllReadyH.nil)
                      go_simp
                      refine hK.out _ _ (hbx.2) (fun hHeld => ?_)
                      clear hK K
                      (try simp only [Act.put, List.setIfInBounds_toArray, List.set_cons_zero, List.set_cons_succ, List.getElem_toArray, List.getElem_cons_succ, List.getElem_cons_zero])
                      refine wpAnyH_done (by kernel_rfl) ?_ _
                      refine NoPanic.normal ?_
                      clear s1 s2 hbx
                      go_wp2
                      go_ret
                      exact put_end HN.out HF1.out HOV.out HST.out HOD.out HRL.out HFIN.out HR.out
                  · have x2 := HPS.out.ref.c2
                    go_simp
                    clear x2
                    refine hK.out _ _ (HPS.out.box) (fun hHeld => ?_)
                    clear hK K
                    (try simp only [Act.put, List.setIfInBounds_toArray, List.set_cons_zero, List.set_cons_succ, List.getElem_toArray, List.getElem_cons_succ, List.getElem_cons_zero])
                    refine wpAnyH_ready (rs := [1, 8]) (by kernel_rfl) (by simp) ?_
                    refine AllReadyH.cons rfl (fun K hK => ?_) (AllReadyH.cons rfl (fun K hK => ?_) (AllReadyH.nil))
                    · go_simp
                      have hps := HPS.out.only ((Only.refl (fun _ => False) wd).alloc (.cells #[] 81))
                      have HE1 := Lib.hid (own_empty wd wd.heap.size 81 34 HPS.out.size)
                      generalize wd.alloc (.cells #[] 81) = n1 at *
                      replace HPS := Lib.hid hps
                      clear hps
                      refine hK.out _ _ (HPS.out.box) (fun hHeld => ?_)
                      clear hK K
                      (try simp only [Act.put, List.setIfInBounds_toArray, List.set_cons_zero, List.set_cons_succ, List.getElem_toArray, List.getElem_cons_succ, List.getElem_cons_zero])
                      refine wpAnyH_ready (rs := [6, 8]) (by kernel_rfl) (by simp) ?_
                      refine AllReadyH.cons rfl (fun K hK => ?_) (AllReadyH.cons rfl (fun K hK => ?_) (AllReadyH.nil))
                      · obtain ⟨v5, n6, hr6, ho6, hg6⟩ := HPS.out.copy HE1.out hl1
                        rw [if_pos (by rfl)]
                        refine wp_append_run (.tmp 115) (.tmp 119) 59 59 rfl rfl _ _ (by rfl) (by rfl) _ _ hr6 ?_
                        have hps := HPS.out.new (grown_beside HE1.out hg6)
                        have HC6 := Lib.hid ho6
                        replace HPS := Lib.hid hps
                        clear hps hr6 ho6 hg6 HE1
                        refine hK.out _ _ (HPS.out.box) (fun hHeld => ?_)
                        clear hK K
                        (try simp only [Act.put, List.setIfInBounds_toArray, List.set_cons_zero, List.set_cons_succ, List.getElem_toArray, List.getElem_cons_succ, List.getElem_cons_zero])
                        refine wpAnyH_ready (rs := [8]) (by kernel_rfl) (by simp) ?_
                        refine AllReadyH.cons rfl (fun K hK => ?_) (AllReadyH.nil)
                        go_simp
                        have hps := HPS.out.only ((Only.refl (fun _ => False) n6).alloc (.cells #[] 5))
                        have HE8 := Lib.hid (own_empty n6 wd.heap.size 5 1 HPS.out.size)
                        replace HC6 := Lib.hid (HC6.out.alloc (.cells #[] 5))
                        generalize n6.alloc (.cells #[] 5) = n8 at *
                        replace HPS := Lib.hid hps
                        clear hps
                        refine hK.out _ _ (HPS.out.box) (fun hHeld => ?_)
                        clear hK K
                        (try simp only [Act.put, List.setIfInBounds_toArray, List.set_cons_zero, List.set_cons_succ, List.getElem_toArray, List.getElem_cons_succ, List.getElem_cons_zero])
                        refine wpAnyH_ready (rs := [10]) (by kernel_rfl) (by simp) ?_
                        refine AllReadyH.cons rfl (fun K hK => ?_) (AllReadyH.nil)
                        obtain ⟨lo10, cap10, n10, hr10, ho10, hg10⟩ := bytes_app HE8.out HPS.out.dat capd hb HPS.out.size
                        rw [if_pos (by rfl)]
                        refine wp_append_run (.tmp 122) (.tmp 123) 22 22 rfl rfl _ _ (by rfl) (by rfl) _ _ hr10 ?_
                        have hps := HPS.out.new (grown_beside HE8.out hg10)
                        replace HC6 := Lib.hid (HC6.out.kept hg10 (own_diff HC6.out HE8.out (by decide)))
                        have HC10 := Lib.hid ho10
                        replace HPS := Lib.hid hps
                        clear hps hr10 ho10 hg10 HE8
                        refine hK.out _ _ (HPS.out.box) (fun hHeld => ?_)
                        clear hK K
                        (try simp only [Act.put, List.setIfInBounds_toArray, List.set_cons_zero, List.set_cons_succ, List.getElem_toArray, List.getElem_cons_succ, List.getElem_cons_zero])
                        refine wpAnyH_take (i := 11) (v := ?_) rfl (by kernel_rfl) (by kernel_rfl) (by kernel_rfl) (fun _ _ _ h => h) (Or.inl ⟨by rfl, ?_⟩) (by assumption) ?_
                        rotate_left
                        · ((intro w hSw); (first | (go_simp; done) | (go_simp; with_reducible rfl)))
                        (try simp only [Act.put, List.setIfInBounds_toArray, List.set_cons_zero, List.set_cons_succ, List.getElem_toArray, List.getElem_cons_succ, List.getElem_cons_zero])
                        refine wpAnyH_ready (rs := [12]) (by kernel_rfl) (by simp) ?_
                        refine AllReadyH.cons rfl (fun K hK => ?_) (AllReadyH.nil)
                        go_simp
                        refine hK.out _ _ ((HPS.out.only ((Only.refl (fun _ => False) n10).alloc _)).box) (fun hHeld => ?_)
                        clear hK K
                        (try simp only [Act.put, List.setIfInBounds_toArray, List.set_cons_zero, List.set_cons_succ, List.getElem_toArray, List.getElem_cons_succ, List.getElem_cons_zero])
                        refine wpAnyH_ready (rs := [13]) (by kernel_rfl) (by simp) ?_
                        refine AllReadyH.cons rfl (fun K hK => ?_) (AllReadyH.nil)
                        obtain ⟨lo13, cap13, n13, hr13, s1, s2, hbx, hfin⟩ := put_more (x := (⟨k, b, 0, lo10, cap10⟩ : RC)) rfl rfl rfl rfl rfl HPS.out HC6.out HC10.out HREF0.out hl1 HK2.out HBR.out
                        rw [if_pos (by rfl)]
                        refine wp_append_run (.tmp 120) (.tmp 126) 59 59 rfl rfl _ _ (by rfl) (by rfl) _ _ hr13 ?_
                        have HFIN := Lib.hid hfin
                        clear hr13 hfin
                        refine hK.out _ _ (hbx.1) (fun hHeld => ?_)
                        clear hK K
                        (try simp only [Act.put, List.setIfInBounds_toArray, List.set_cons_zero, List.set_cons_succ, List.getElem_toArray, List.getElem_cons_succ, List.getElem_cons_zero])
                        refine wpAnyH_take (i := 14) (v := ?_) rfl (by kernel_rfl) (by kernel_rfl) (by kernel_rfl) (fun _ _ _ h => h) (Or.inl ⟨by rfl, ?_⟩) (by assumption) ?_
                        rotate_left
                        · ((intro w hSw); (first | (go_simp; done) | (go_simp; with_reducible rfl)))
                        (try simp only [Act.put, List.setIfInBounds_toArray, List.set_cons_zero, List.set_cons_succ, List.getElem_toArray, List.getElem_cons_succ, List.getElem_cons_zero])
                        refine wpAnyH_take (i := 15) (v := ?_) rfl (by kernel_rfl) (by kernel_rfl) (by kernel_rfl) (fun _ _ _ h => h) (Or.inl ⟨by rfl, ?_⟩) (by assumption) ?_
                        rotate_left
                        · ((intro w hSw); (first | (go_simp; done) | (go_simp; with_reducible rfl)))
                        (try simp only [Act.put, List.setIfInBounds_toArray, List.set_cons_zero, List.set_cons_succ, List.getElem_toArray, List.getElem_cons_succ, List.getElem_cons_zero])
                        refine wpAnyH_ready (rs := [16]) (by kernel_rfl) (by simp) ?_
                        refine AllReadyH.cons rfl (fun K hK => ?_) (AllReadyH.nil)
                        go_simp
                        refine hK.out _ _ (hbx.2) (fun hHeld => ?_)
                        clear hK K
                        (try simp only [Act.put, List.setIfInBounds_toArray, List.set_cons_zero, List.set_cons_succ, List.getElem_toArray, List.getElem_cons_succ, List.getElem_cons_zero])
                        refine wpAnyH_done (by kernel_rfl) ?_ _
                        refine NoPanic.normal ?_
                        clear s1 s2 hbx
                        go_wp2
                        go_ret
                        exact put_end HN.out HF1.out HOV.out HST.out HOD.out HRL.out HFIN.out HR.out
                      · go_simp
                        have hps := HPS.out.only ((Only.refl (fun _ => False) n1).alloc (.cells #[] 5))
                        have HE8 := Lib.hid (own_empty n1 wd.heap.size 5 1 HPS.out.size)
                        replace HE1 := Lib.hid (HE1.out.alloc (.cells #[] 5))
                        generalize n1.alloc (.cells #[] 5) = n8 at *
                        replace HPS := Lib.hid hps
                        clear hps
                        refine hK.out _ _ (HPS.out.box) (fun hHeld => ?_)
                        clear hK K
                        (try simp only [Act.put, List.setIfInBounds_toArray, List.set_cons_zero, List.set_cons_succ, List.getElem_toArray, List.getElem_cons_succ, List.getElem_cons_zero])
                        refine wpAnyH_ready (rs := [6]) (by kernel_rfl) (by simp) ?_
                        refine AllReadyH.cons rfl (fun K hK => ?_) (AllReadyH.nil)
                        obtain ⟨v5, n6, hr6, ho6, hg6⟩ := HPS.out.copy HE1.out hl1
                        rw [if_pos (by rfl)]
                        refine wp_append_run (.tmp 115) (.tmp 119) 59 59 rfl rfl _ _ (by rfl) (by rfl) _ _ hr6 ?_
                        have hps := HPS.out.new (grown_beside HE1.out hg6)
                        replace HE8 := Lib.hid (HE8.out.kept hg6 (own_diff HE8.out HE1.out (by decide)))
                        have HC6 := Lib.hid ho6
                        replace HPS := Lib.hid hps
                        clear hps hr6 ho6 hg6 HE1
                        refine hK.out _ _ (HPS.out.box) (fun hHeld => ?_)
                        clear hK K
                        (try simp only [Act.put, List.setIfInBounds_toArray, List.set_cons_zero, List.set_cons_succ, List.getElem_toArray, List.getElem_cons_succ, List.getElem_cons_zero])
                        refine wpAnyH_ready (rs := [10]) (by kernel_rfl) (by simp) ?_
                        refine AllReadyH.cons rfl (fun K hK => ?_) (AllReadyH.nil)
                        obtain ⟨lo10, cap10, n10, hr10, ho10, hg10⟩ := bytes_app HE8.out HPS.out.dat capd hb HPS.out.size
                        rw [if_pos (by rfl)]
                        refine wp_append_run (.tmp 122) (.tmp 123) 22 22 rfl rfl _ _ (by rfl) (by rfl) _ _ hr10 ?_
                        have hps := HPS.out.new (grown_beside HE8.out hg10)
                        replace HC6 := Lib.hid (HC6.out.kept hg10 (own_diff HC6.out HE8.out (by decide)))
                        have HC10 := Lib.hid ho10
                        replace HPS := Lib.hid hps
                        clear hps hr10 ho10 hg10 HE8
                        refine hK.out _ _ (HPS.out.box) (fun hHeld => ?_)
                        clear hK K
                        (try simp only [Act.put, List.setIfInBounds_toArray, List.set_cons_zero, List.set_cons_succ, List.getElem_toArray, List.getElem_cons_succ, List.getElem_cons_zero])
                        refine wpAnyH_take (i := 11) (v := ?_) rfl (by kernel_rfl) (by kernel_rfl) (by kernel_rfl) (fun _ _ _ h => h) (Or.inl ⟨by rfl, ?_⟩) (by assumption) ?_
                        rotate_left
                        · ((intro w hSw); (first | (go_simp; done) | (go_simp; with_reducible rfl)))
                        (try simp only [Act.put, List.setIfInBounds_toArray, List.set_cons_zero, List.set_cons_succ, List.getElem_toArray, List.getElem_cons_succ, List.getElem_cons_zero])
                        refine wpAnyH_ready (rs := [12]) (by kernel_rfl) (by simp) ?_
                        refine AllReadyH.cons rfl (fun K hK => ?_) (AllReadyH.nil)
                        go_simp
                        refine hK.out _ _ ((HPS.out.only ((Only.refl (fun _ => False) n10).alloc _)).box) (fun hHeld => ?_)
                        clear hK K
                        (try simp only [Act.put, List.setIfInBounds_toArray, List.set_cons_zero, List.set_cons_succ, List.getElem_toArray, List.getElem_cons_succ, List.getElem_cons_zero])
                        refine wpAnyH_ready (rs := [13]) (by kernel_rfl) (by simp) ?_
                        refine AllReadyH.cons rfl (fun K hK => ?_) (AllReadyH.nil)
                        obtain ⟨lo13, cap13, n13, hr13, s1, s2, hbx, hfin⟩ := put_more (x := (⟨k, b, 0, lo10, cap10⟩ : RC)) rfl rfl rfl rfl rfl HPS.out HC6.out HC10.out HREF0.out hl1 HK2.out HBR.out
                        rw [if_pos (by rfl)]
                        refine wp_append_run (.tmp 120) (.tmp 126) 59 59 rfl rfl _ _ (by rfl) (by rfl) _ _ hr13 ?_
                        have HFIN := Lib.hid hfin
                        clear hr13 hfin
                        refine hK.out _ _ (hbx.1) (fun hHeld => ?_)
                        clear hK K
                        (try simp only [Act.put, List.setIfInBounds_toArray, List.set_cons_zero, List.set_cons_succ, List.getElem_toArray, List.getElem_cons_succ, List.getElem_cons_zero])
                        refine wpAnyH_take (i := 14) (v := ?_) rfl (by kernel_rfl) (by kernel_rfl) (by kernel_rfl) (fun _ _ _ h => h) (Or.inl ⟨by rfl, ?_⟩) (by assumption) ?_
                        rotate_left
                        · ((intro w hSw); (first | (go_simp; done) | (go_simp; with_reducible rfl)))
                        (try simp only [Act.put, List.setIfInBounds_toArray, List.set_cons_zero, List.set_cons_succ, List.getElem_toArray, List.getElem_cons_succ, List.getElem_cons_zero])
                        refine wpAnyH_take (i := 15) (v := ?_) rfl (by kernel_rfl) (by kernel_rfl) (by kernel_rfl) (fun _ _ _ h => h) (Or.inl ⟨by rfl, ?_⟩) (by assumption) ?_
                        rotate_left
                        · ((intro w hSw); (first | (go_simp; done) | (go_simp; with_reducible rfl)))
                        (try simp only [Act.put, List.setIfInBounds_toArray, List.set_cons_zero, List.set_cons_succ, List.getElem_toArray, List.getElem_cons_succ, List.getElem_cons_zero])
                        refine wpAnyH_ready (rs := [16]) (by kernel_rfl) (by simp) ?_
                        refine AllReadyH.cons rfl (fun K hK => ?_) (AllReadyH.nil)
                        go_simp
                        refine hK.out _ _ (hbx.2) (fun hHeld => ?_)
                        clear hK K
                        (try simp only [Act.put, List.setIfInBounds_toArray, List.set_cons_zero, List.set_cons_succ, List.getElem_toArray, List.getElem_cons_succ, List.getElem_cons_zero])
                        refine wpAnyH_done (by kernel_rfl) ?_ _
                        refine NoPanic.normal ?_
                        clear s1 s2 hbx
                        go_wp2
                        go_ret
                        exact put_end HN.out HF1.out HOV.out HST.out HOD.out HRL.out HFIN.out HR.out
                    · go_simp
                      have hps := HPS.out.only ((Only.refl (fun _ => False) wd).alloc (.cells #[] 5))
                      have HE8 := Lib.hid (own_empty wd wd.heap.size 5 1 HPS.out.size)
                      generalize wd.alloc (.cells #[] 5) = n8 at *
                      replace HPS := Lib.hid hps
                      clear hps
                      refine hK.out _ _ (HPS.out.box) (fun hHeld => ?_)
                      clear hK K
                      (try simp only [Act.put, List.setIfInBounds_toArray, List.set_cons_zero, List.set_cons_succ, List.getElem_toArray, List.getElem_cons_succ, List.getElem_cons_zero])
                      refine wpAnyH_ready (rs := [1]) (by kernel_rfl) (by simp) ?_
                      refine AllReadyH.cons rfl (fun K hK => ?_) (AllReadyH.nil)
                      go_simp
                      have hps := HPS.out.only ((Only.refl (fun _ => False) n8).alloc (.cells #[] 81))
                      have HE1 := Lib.hid (own_empty n8 wd.heap.size 81 34 HPS.out.size)
                      replace HE8 := Lib.hid (HE8.out.alloc (.cells #[] 81))
                      generalize n8.alloc (.cells #[] 81) = n1 at *
                      replace HPS := Lib.hid hps
                      clear hps
                      refine hK.out _ _ (HPS.out.box) (fun hHeld => ?_)
                      clear hK K
                      (try simp only [Act.put, List.setIfInBounds_toArray, List.set_cons_zero, List.set_cons_succ, List.getElem_toArray, List.getElem_cons_succ, List.getElem_cons_zero])
                      refine wpAnyH_ready (rs := [6]) (by kernel_rfl) (by simp) ?_
                      refine AllReadyH.cons rfl (fun K hK => ?_) (AllReadyH.nil)
                      obtain ⟨v5, n6, hr6, ho6, hg6⟩ := HPS.out.copy HE1.out hl1
                      rw [if_pos (by rfl)]
                      refine wp_append_run (.tmp 115) (.tmp 119) 59 59 rfl rfl _ _ (by rfl) (by rfl) _ _ hr6 ?_
                      have hps := HPS.out.new (grown_beside HE1.out hg6)
                      replace HE8 := Lib.hid (HE8.out.kept hg6 (own_diff HE8.out HE1.out (by decide)))
                      have HC6 := Lib.hid ho6
                      replace HPS := Lib.hid hps
                      clear hps hr6 ho6 hg6 HE1
                      refine hK.out _ _ (HPS.out.box) (fun hHeld => ?_)
                      clear hK K
                      (try simp only [Act.put, List.setIfInBounds_toArray, List.set_cons_zero, List.set_cons_succ, List.getElem_toArray, List.getElem_cons_succ, List.getElem_cons_zero])
                      refine wpAnyH_ready (rs := [10]) (by kernel_rfl) (by simp) ?_
                      refine AllReadyH.cons rfl (fun K hK => ?_) (AllReadyH.nil)
                      obtain ⟨lo10, cap10, n10, hr10, ho10, hg10⟩ := bytes_app HE8.out HPS.out.dat capd hb HPS.out.size
                      rw [if_pos (by rfl)]
                      refine wp_append_run (.tmp 122) (.tmp 123) 22 22 rfl rfl _ _ (by rfl) (by rfl) _ _ hr10 ?_
                      have hps := HPS.out.new (grown_beside HE8.out hg10)
                      replace HC6 := Lib.hid (HC6.out.kept hg10 (own_diff HC6.out HE8.out (by decide)))
                      have HC10 := Lib.hid ho10
                      replace HPS := Lib.hid hps
                      clear hps hr10 ho10 hg10 HE8
                      refine hK.out _ _ (HPS.out.box) (fun hHeld => ?_)
                      clear hK K
                      (try simp only [Act.put, List.setIfInBounds_toArray, List.set_cons_zero, List.set_cons_succ, List.getElem_toArray, List.getElem_cons_succ, List.getElem_cons_zero])
                      refine wpAnyH_take (i := 11) (v := ?_) rfl (by kernel_rfl) (by kernel_rfl) (by kernel_rfl) (fun _ _ _ h => h) (Or.inl ⟨by rfl, ?_⟩) (by assumption) ?_
                      rotate_left
                      · ((intro w hSw); (first | (go_simp; done) | (go_simp; with_reducible rfl)))
                      (try simp only [Act.put, List.setIfInBounds_toArray, List.set_cons_zero, List.set_cons_succ, List.getElem_toArray, List.getElem_cons_succ, List.getElem_cons_zero])
                      refine wpAnyH_ready (rs := [12]) (by kernel_rfl) (by simp) ?_
                      refine AllReadyH.cons rfl (fun K hK => ?_) (AllReadyH.nil)
                      go_simp
                      refine hK.out _ _ ((HPS.out.only ((Only.refl (fun _ => False) n10).alloc _)).box) (fun hHeld => ?_)
                      clear hK K
                      (try simp only [Act.put, List.setIfInBounds_toArray, List.set_cons_zero, List.set_cons_succ, List.getElem_toArray, List.getElem_cons_succ, List.getElem_cons_zero])
                      refine wpAnyH_ready (rs := [13]) (by kernel_rfl) (by simp) ?_
                      refine AllReadyH.cons rfl (fun K hK => ?_) (AllReadyH.nil)
                      obtain ⟨lo13, cap13, n13, hr13, s1, s2, hbx, hfin⟩ := put_more (x := (⟨k, b, 0, lo10, cap10⟩ : RC)) rfl rfl rfl rfl rfl HPS.out HC6.out HC10.out HREF0.out hl1 HK2.out HBR.out
                      rw [if_pos (by rfl)]
                      refine wp_append_run (.tmp 120) (.tmp 126) 59 59 rfl rfl _ _ (by rfl) (by rfl) _ _ hr13 ?_
                      have HFIN := Lib.hid hfin
                      clear hr13 hfin
                      refine hK.out _ _ (hbx.1) (fun hHeld => ?_)
                      clear hK K
                      (try simp only [Act.put, List.setIfInBounds_toArray, List.set_cons_zero, List.set_cons_succ, List.getElem_toArray, List.getElem_cons_succ, List.getElem_cons_zero])
                      refine wpAnyH_take (i := 14) (v := ?_) rfl (by kernel_rfl) (by kernel_rfl) (by kernel_rfl) (fun _ _ _ h => h) (Or.inl ⟨by rfl, ?_⟩) (by assumption) ?_
                      rotate_left
                      · ((intro w hSw); (first | (go_simp; done) | (go_simp; with_reducible rfl)))
                      (try simp only [Act.put, List.setIfInBounds_toArray, List.set_cons_zero, List.set_cons_succ, List.getElem_toArray, List.getElem_cons_succ, List.getElem_cons_zero])
                      refine wpAnyH_take (i := 15) (v := ?_) rfl (by kernel_rfl) (by kernel_rfl) (by kernel_rfl) (fun _ _ _ h => h) (Or.inl ⟨by rfl, ?_⟩) (by assumption) ?_
                      rotate_left
                      · ((intro w hSw); (first | (go_simp; done) | (go_simp; with_reducible rfl)))
                      (try simp only [Act.put, List.setIfInBounds_toArray, List.set_cons_zero, List.set_cons_succ, List.getElem_toArray, List.getElem_cons_succ, List.getElem_cons_zero])
                      refine wpAnyH_ready (rs := [16]) (by kernel_rfl) (by simp) ?_
                      refine AllReadyH.cons rfl (fun K hK => ?_) (AllReadyH.nil)
                      go_simp
                      refine hK.out _ _ (hbx.2) (fun hHeld => ?_)
                      clear hK K
                      (try simp only [Act.put, List.setIfInBounds_toArray, List.set_cons_zero, List.set_cons_succ, List.getElem_toArray, List.getElem_cons_succ, List.getElem_cons_zero])
                      refine wpAnyH_done (by kernel_rfl) ?_ _
                      refine NoPanic.normal ?_
                      clear s1 s2 hbx
                      go_wp2
                      go_ret
                      exact put_end HN.out HF1.out HOV.out HST.out HOD.out HRL.out HFIN.out HR.out
                  · go_simp
                    have hps := HPS.out.only ((Only.refl (fun _ => False) wd).alloc (.cells #[] 5))
                    have HE8 := Lib.hid (own_empty wd wd.heap.size 5 1 HPS.out.size)
                    generalize wd.alloc (.cells #[] 5) = n8 at *
                    replace HPS := Lib.hid hps
                    clear hps
                    refine hK.out _ _ (HPS.out.box) (fun hHeld => ?_)
                    clear hK K
                    (try simp only [Act.put, List.setIfInBounds_toArray, List.set_cons_zero, List.set_cons_succ, List.getElem_toArray, List.getElem_cons_succ, List.getElem_cons_zero])
                    refine wpAnyH_ready (rs := [1, 5]) (by kernel_rfl) (by simp) ?_
                    refine AllReadyH.cons rfl (fun K hK => ?_) (AllReadyH.cons rfl (fun K hK => ?_) (AllReadyH.nil))
                    · go_simp
                      have hps := HPS.out.only ((Only.refl (fun _ => False) n8).alloc (.cells #[] 81))
                      have HE1 := Lib.hid (own_empty n8 wd.heap.size 81 34 HPS.out.size)
                      replace HE8 := Lib.hid (HE8.out.alloc (.cells #[] 81))
                      generalize n8.alloc (.cells #[] 81) = n1 at *
                      replace HPS := Lib.hid hps
                      clear hps
                      refine hK.out _ _ (HPS.out.box) (fun hHeld => ?_)
                      clear hK K
                      (try simp only [Act.put, List.setIfInBounds_toArray, List.set_cons_zero, List.set_cons_succ, List.getElem_toArray, List.getElem_cons_succ, List.getElem_cons_zero])
                      refine wpAnyH_ready (rs := [5]) (by kernel_rfl) (by simp) ?_
                      refine AllReadyH.cons rfl (fun K hK => ?_) (AllReadyH.nil)
                      have x2 := HPS.out.ref.c2
                      go_simp
                      clear x2
                      refine hK.out _ _ (HPS.out.box) (fun hHeld => ?_)
                      clear hK K
                      (try simp only [Act.put, List.setIfInBounds_toArray, List.set_cons_zero, List.set_cons_succ, List.getElem_toArray, List.getElem_cons_succ, List.getElem_cons_zero])
                      refine wpAnyH_ready (rs := [6]) (by kernel_rfl) (by simp) ?_
                      refine AllReadyH.cons rfl (fun K hK => ?_) (AllReadyH.nil)
                      obtain ⟨v5, n6, hr6, ho6, hg6⟩ := HPS.out.copy HE1.out hl1
                      rw [if_pos (by rfl)]
                      refine wp_append_run (.tmp 115) (.tmp 119) 59 59 rfl rfl _ _ (by rfl) (by rfl) _ _ hr6 ?_
                      have hps := HPS.out.new (grown_beside HE1.out hg6)
                      replace HE8 := Lib.hid (HE8.out.kept hg6 (own_diff HE8.out HE1.out (by decide)))
                      have HC6 := Lib.hid ho6
                      replace HPS := Lib.hid hps
                      clear hps hr6 ho6 hg6 HE1
                      refine hK.out _ _ (HPS.out.box) (fun hHeld => ?_)
                      clear hK K
                      (try simp only [Act.put, List.setIfInBounds_toArray, List.set_cons_zero, List.set_cons_succ, List.getElem_toArray, List.getElem_cons_succ, List.getElem_cons_zero])
                      refine wpAnyH_ready (rs := [10]) (by kernel_rfl) (by simp) ?_
                      refine AllReadyH.cons rfl (fun K hK => ?_) (AllReadyH.nil)
                      obtain ⟨lo10, cap10, n10, hr10, ho10, hg10⟩ := bytes_app HE8.out HPS.out.dat capd hb HPS.out.size
                      rw [if_pos (by rfl)]
                      refine wp_append_run (.tmp 122) (.tmp 123) 22 22 rfl rfl _ _ (by rfl) (by rfl) _ _ hr10 ?_
                      have hps := HPS.out.new (grown_beside HE8.out hg10)
                      replace HC6 := Lib.hid (HC6.out.kept hg10 (own_diff HC6.out HE8.out (by decide)))
                      have HC10 := Lib.hid ho10
                      replace HPS := Lib.hid hps
                      clear hps hr10 ho10 hg10 HE8
                      refine hK.out _ _ (HPS.out.box) (fun hHeld => ?_)
                      clear hK K
                      (try simp only [Act.put, List.setIfInBounds_toArray, List.set_cons_zero, List.set_cons_succ, List.getElem_toArray, List.getElem_cons_succ, List.getElem_cons_zero])
                      refine wpAnyH_take (i := 11) (v := ?_) rfl (by kernel_rfl) (by kernel_rfl) (by kernel_rfl) (fun _ _ _ h => h) (Or.inl ⟨by rfl, ?_⟩) (by assumption) ?_
                      rotate_left
                      · ((intro w hSw); (first | (go_simp; done) | (go_simp; with_reducible rfl)))
                      (try simp only [Act.put, List.setIfInBounds_toArray, List.set_cons_zero, List.set_cons_succ, List.getElem_toArray, List.getElem_cons_succ, List.getElem_cons_zero])
                      refine wpAnyH_ready (rs := [12]) (by kernel_rfl) (by simp) ?_
                      refine AllReadyH.cons rfl (fun K hK => ?_) (AllReadyH.nil)
                      go_simp
                      refine hK.out _ _ ((HPS.out.only ((Only.refl (fun _ => False) n10).alloc _)).box) (fun hHeld => ?_)
                      clear hK K
                      (try simp only [Act.put, List.setIfInBounds_toArray, List.set_cons_zero, List.set_cons_succ, List.getElem_toArray, List.getElem_cons_succ, List.getElem_cons_zero])
                      refine wpAnyH_ready (rs := [13]) (by kernel_rfl) (by simp) ?_
                      refine AllReadyH.cons rfl (fun K hK => ?_) (AllReadyH.nil)
                      obtain ⟨lo13, cap13, n13, hr13, s1, s2, hbx, hfin⟩ := put_more (x := (⟨k, b, 0, lo10, cap10⟩ : RC)) rfl rfl rfl rfl rfl HPS.out HC6.out HC10.out HREF0.out hl1 HK2.out HBR.out
                      rw [if_pos (by rfl)]
                      refine wp_append_run (.tmp 120) (.tmp 126) 59 59 rfl rfl _ _ (by rfl) (by rfl) _ _ hr13 ?_
                      have HFIN := Lib.hid hfin
                      clear hr13 hfin
                      refine hK.out _ _ (hbx.1) (fun hHeld => ?_)
                      clear hK K
                      (try simp only [Act.put, List.setIfInBounds_toArray, List.set_cons_zero, List.set_cons_succ, List.getElem_toArray, List.getElem_cons_succ, List.getElem_cons_zero])
                      refine wpAnyH_take (i := 14) (v := ?_) rfl (by kernel_rfl) (by kernel_rfl) (by kernel_rfl) (fun _ _ _ h => h) (Or.inl ⟨by rfl, ?_⟩) (by assumption) ?_
                      rotate_left
                      · ((intro w hSw); (first | (go_simp; done) | (go_simp; with_reducible rfl)))
                      (try simp only [Act.put, List.setIfInBounds_toArray, List.set_cons_zero, List.set_cons_succ, List.getElem_toArray, List.getElem_cons_succ, List.getElem_cons_zero])
                      refine wpAnyH_take (i := 15) (v := ?_) rfl (by kernel_rfl) (by kernel_rfl) (by kernel_rfl) (fun _ _ _ h => h) (Or.inl ⟨by rfl, ?_⟩) (by assumption) ?_
                      rotate_left
                      · ((intro w hSw); (first | (go_simp; done) | (go_simp; with_reducible rfl)))
                      (try simp only [Act.put, List.setIfInBounds_toArray, List.set_cons_zero, List.set_cons_succ, List.getElem_toArray, List.getElem_cons_succ, List.getElem_cons_zero])
                      refine wpAnyH_ready (rs := [16]) (by kernel_rfl) (by simp) ?_
                      refine AllReadyH.cons rfl (fun K hK => ?_) (AllReadyH.nil)
                      go_simp
                      refine hK.out _ _ (hbx.2) (fun hHeld => ?_)
                      clear hK K
                      (try simp only [Act.put, List.setIfInBounds_toArray, List.set_cons_zero, List.set_cons_succ, List.getElem_toArray, List.getElem_cons_succ, List.getElem_cons_zero])
                      refine wpAnyH_done (by kernel_rfl) ?_ _
                      refine NoPanic.normal ?_
                      clear s1 s2 hbx
                      go_wp2
                      go_ret
                      exact put_end HN.out HF1.out HOV.out HST.out HOD.out HRL.out HFIN.out HR.out
                    · have x2 := HPS.out.ref.c2
                      go_simp
                      clear x2
                      refine hK.out _ _ (HPS.out.box) (fun hHeld => ?_)
                      clear hK K
                      (try simp only [Act.put, List.setIfInBounds_toArray, List.set_cons_zero, List.set_cons_succ, List.getElem_toArray, List.getElem_cons_succ, List.getElem_cons_zero])
                      refine wpAnyH_ready (rs := [1]) (by kernel_rfl) (by simp) ?_
                      refine AllReadyH.cons rfl (fun K hK => ?_) (AllReadyH.nil)
                      go_simp
                      have hps := HPS.out.only ((Only.refl (fun _ => False) n8).alloc (.cells #[] 81))
                      have HE1 := Lib.hid (own_empty n8 wd.heap.size 81 34 HPS.out.size)
                      replace HE8 := Lib.hid (HE8.out.alloc (.cells #[] 81))
                      generalize n8.alloc (.cells #[] 81) = n1 at *
                      replace HPS := Lib.hid hps
                      clear hps
                      refine hK.out _ _ (HPS.out.box) (fun hHeld => ?_)
                      clear hK K
                      (try simp only [Act.put, List.setIfInBounds_toArray, List.set_cons_zero, List.set_cons_succ, List.getElem_toArray, List.getElem_cons_succ, List.getElem_cons_zero])
                      refine wpAnyH_ready (rs := [6]) (by kernel_rfl) (by simp) ?_
                      refine AllReadyH.cons rfl (fun K hK => ?_) (AllReadyH.nil)
                      obtain ⟨v5, n6, hr6, ho6, hg6⟩ := HPS.out.copy HE1.out hl1
                      rw [if_pos (by rfl)]
                      refine wp_append_run (.tmp 115) (.tmp 119) 59 59 rfl rfl _ _ (by rfl) (by rfl) _ _ hr6 ?_
                      have hps := HPS.out.new (grown_beside HE1.out hg6)
                      replace HE8 := Lib.hid (HE8.out.kept hg6 (own_diff HE8.out HE1.out (by decide)))
                      have HC6 := Lib.hid ho6
                      replace HPS := Lib.hid hps
                      clear hps hr6 ho6 hg6 HE1
                      refine hK.out _ _ (HPS.out.box) (fun hHeld => ?_)
                      clear hK K
                      (try simp only [Act.put, List.setIfInBounds_toArray, List.set_cons_zero, List.set_cons_succ, List.getElem_toArray, List.getElem_cons_succ, List.getElem_cons_zero])
                      refine wpAnyH_ready (rs := [10]) (by kernel_rfl) (by simp) ?_
                      refine AllReadyH.cons rfl (fun K hK => ?_) (AllReadyH.nil)
                      obtain ⟨lo10, cap10, n10, hr10, ho10, hg10⟩ := bytes_app HE8.out HPS.out.dat capd hb HPS.out.size
                      rw [if_pos (by rfl)]
                      refine wp_append_run (.tmp 122) (.tmp 123) 22 22 rfl rfl _ _ (by rfl) (by rfl) _ _ hr10 ?_
                      have hps := HPS.out.new (grown_beside HE8.out hg10)
                      replace HC6 := Lib.hid (HC6.out.kept hg10 (own_diff HC6.out HE8.out (by decide)))
                      have HC10 := Lib.hid ho10
                      replace HPS := Lib.hid hps
                      clear hps hr10 ho10 hg10 HE8
                      refine hK.out _ _ (HPS.out.box) (fun hHeld => ?_)
                      clear hK K
                      (try simp only [Act.put, List.setIfInBounds_toArray, List.set_cons_zero, List.set_cons_succ, List.getElem_toArray, List.getElem_cons_succ, List.getElem_cons_zero])
                      refine wpAnyH_take (i := 11) (v := ?_) rfl (by kernel_rfl) (by kernel_rfl) (by kernel_rfl) (fun _ _ _ h => h) (Or.inl ⟨by rfl, ?_⟩) (by assumption) ?_
                      rotate_left
                      · ((intro w hSw); (first | (go_simp; done) | (go_simp; with_reducible rfl)))
                      (try simp only [Act.put, List.setIfInBounds_toArray, List.set_cons_zero, List.set_cons_succ, List.getElem_toArray, List.getElem_cons_succ, List.getElem_cons_zero])
                      refine wpAnyH_ready (rs := [12]) (by kernel_rfl) (by simp) ?_
                      refine AllReadyH.cons rfl (fun K hK => ?_) (AllReadyH.nil)
                      go_simp
                      refine hK.out _ _ ((HPS.out.only ((Only.refl (fun _ => False) n10).alloc _)).box) (fun hHeld => ?_)
                      clear hK K
                      (try simp only [Act.put, List.setIfInBounds_toArray, List.set_cons_zero, List.set_cons_succ, List.getElem_toArray, List.getElem_cons_succ, List.getElem_cons_zero])
                      refine wpAnyH_ready (rs := [13]) (by kernel_rfl) (by simp) ?_
                      refine AllReadyH.cons rfl (fun K hK => ?_) (AllReadyH.nil)
                      obtain ⟨lo13, cap13, n13, hr13, s1, s2, hbx, hfin⟩ := put_more (x := (⟨k, b, 0, lo10, cap10⟩ : RC)) rfl rfl rfl rfl rfl HPS.out HC6.out HC10.out HREF0.out hl1 HK2.out HBR.out
                      rw [if_pos (by rfl)]
                      refine wp_append_run (.tmp 120) (.tmp 126) 59 59 rfl rfl _ _ (by rfl) (by rfl) _ _ hr13 ?_
                      have HFIN := Lib.hid hfin
                      clear hr13 hfin
                      refine hK.out _ _ (hbx.1) (fun hHeld => ?_)
                      clear hK K
                      (try simp only [Act.put, List.setIfInBounds_toArray, List.set_cons_zero, List.set_cons_succ, List.getElem_toArray, List.getElem_cons_succ, List.getElem_cons_zero])
                      refine wpAnyH_take (i := 14) (v := ?_) rfl (by kernel_rfl) (by kernel_rfl) (by kernel_rfl) (fun _ _ _ h => h) (Or.inl ⟨by rfl, ?_⟩) (by assumption) ?_
                      rotate_left
                      · ((intro w hSw); (first | (go_simp; done) | (go_simp; with_reducible rfl)))
                      (try simp only [Act.put, List.setIfInBounds_toArray, List.set_cons_zero, List.set_cons_succ, List.getElem_toArray, List.getElem_cons_succ, List.getElem_cons_zero])
                      refine wpAnyH_take (i := 15) (v := ?_) rfl (by kernel_rfl) (by kernel_rfl) (by kernel_rfl) (fun _ _ _ h => h) (Or.inl ⟨by rfl, ?_⟩) (by assumption) ?_
                      rotate_left
                      · ((intro w hSw); (first | (go_simp; done) | (go_simp; with_reducible rfl)))
                      (try simp only [Act.put, List.setIfInBounds_toArray, List.set_cons_zero, List.set_cons_succ, List.getElem_toArray, List.getElem_cons_succ, List.getElem_cons_zero])
                      refine wpAnyH_ready (rs := [16]) (by kernel_rfl) (by simp) ?_
                      refine AllReadyH.cons rfl (fun K hK => ?_) (AllReadyH.nil)
                      go_simp
                      refine hK.out _ _ (hbx.2) (fun hHeld => ?_)
                      clear hK K
                      (try simp only [Act.put, List.setIfInBounds_toArray, List.set_cons_zero, List.set_cons_succ, List.getElem_toArray, List.getElem_cons_succ, List.getElem_cons_zero])
                      refine wpAnyH_done (by kernel_rfl) ?_ _
                      refine NoPanic.normal ?_
                      clear s1 s2 hbx
                      go_wp2
                      go_ret
                      exact put_end HN.out HF1.out HOV.out HST.out HOD.out HRL.out HFIN.out HR.out
end Go.Proofs.Ytafeiankpckijaa
