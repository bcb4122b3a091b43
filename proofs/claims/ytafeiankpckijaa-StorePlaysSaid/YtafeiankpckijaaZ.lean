/- The walk of 'does'. -/
import Derived.Test.YtafeiankpckijaaY
namespace Go.Proofs.Ytafeiankpckijaa
open Go.RowKit
set_option linter.unusedSimpArgs false
set_option linter.unusedVariables false
attribute [local go_sem ↓] Go.wp_at_zero Go.wp_at_succ
def doL (most room : Nat) (d : D) (L : List Chunk) : List Chunk :=
  if d.op % 8 = 3 then touch (keyOf d.id) L else if d.op % 8 = 4 then pinL (· + 1) (keyOf d.id) L else if d.op % 8 = 5 then pinL (· - 1) (keyOf d.id) L else if d.op % 8 = 6 then oth (keyOf d.id) L
  else if d.op % 8 = 7 then (if d.n = 0 then [] else L) else putL most room (keyOf d.id) d.b L
def doE (most room : Nat) (d : D) (L : List Chunk) : Int :=
  if d.op % 8 = 3 then getE (keyOf d.id) L else if d.op % 8 = 4 then getE (keyOf d.id) L else if d.op % 8 = 5 then unpinE (keyOf d.id) L else if d.op % 8 = 6 then getE (keyOf d.id) L
  else if d.op % 8 = 7 then 0 else putE most room (keyOf d.id) d.b.length L
theorem DataAt.frame' {w w' : World} {F : Nat → Prop} {ao : Option Addr} {b : List Int} (h : DataAt w F ao b) (ho : Only (fun _ => False) w w') : DataAt w' F ao b := fun j hj => by
  obtain ⟨ad, h1, h2, h3⟩ := h j hj
  exact ⟨ad, h1, ho.cell h2 (fun h => h), h3⟩
theorem Then.pre {w w1 w' : World} {a most room p : Nat} {F : Nat → Prop} {L : List Chunk} (ho : Only (fun _ => False) w w1) (h : Then w1 a F most room p L w') : Then w a F most room p L w' := by
  obtain ⟨F', h1, h2⟩ := h.rep
  exact ⟨⟨F', h1, h2.sub, fun y hy => by rcases h2.new y hy with hy | hy; exact Or.inl hy; right; have := ho.size; omega⟩, (ho.mono (fun _ _ h => h.elim)).trans h.only⟩
theorem Then.post {w w1 w' : World} {a most room p : Nat} {F : Nat → Prop} {L : List Chunk} (h : Then w a F most room p L w1) (ho : Only (fun _ => False) w1 w') : Then w a F most room p L w' := by
  obtain ⟨F', h1, h2⟩ := h.rep
  exact ⟨⟨F', h1.frame ho, h2⟩, h.only.trans (ho.mono (fun _ _ h => h.elim))⟩
theorem Then.more {w w' : World} {a most room p q : Nat} {F : Nat → Prop} {L : List Chunk} (h : Then w a F most room p L w') (hq : p ≤ q) : Then w a F most room q L w' := by
  obtain ⟨F', h1, h2⟩ := h.rep
  exact ⟨⟨F', h1.more hq, h2⟩, h.only⟩
theorem Then.same {w w' : World} {a most room p : Nat} {F : Nat → Prop} {L : List Chunk} (h : Rep w a F most room p L) (ho : Only (fun _ => False) w w') : Then w a F most room p L w' :=
  ⟨⟨F, h.frame ho, Grew.refl _ _⟩, ho.mono (fun _ _ h => h.elim)⟩
theorem op_wrap (n : Int) : wrap64 ((IntKind.u64.wrap n).tmod 8) = n % 8 := by
  have h1 : IntKind.u64.wrap n = n % 18446744073709551616 := by simp [IntKind.wrap, IntKind.bits, IntKind.signed]
  rw [h1, Int.tmod_eq_emod_of_nonneg (by omega)]
  have h2 : n % 18446744073709551616 % 8 = n % 8 := by omega
  rw [h2]
  unfold wrap64
  omega
section
variable {w : World} {a most room p : Nat} {F : Nat → Prop} {L : List Chunk} {d : D}
set_option maxHeartbeats 2000000 in
theorem does_any (h : Rep w a F most room p L) (hp : p < 1000000000) (hb : DataAt w (fun y => ¬ F y) d.ao d.b) (hl : d.b.length ≤ 1000000) :
    Calls Try.prog 35 #[Ptr a, .agg d.cells.toArray] w fun e w' => e = .returned (.int .i64 (doE most room d L)) ∧ Then w a F most room (p + 1) (doL most room d L) w' := by
  have hk := keyOf_lt d.id
  have ho1 : Only (fun _ => False) w (w.alloc (.cells d.cells.toArray 24)) := (Only.refl _ w).alloc _
  have h1 := h.frame ho1
  have HS := Lib.hid (sum_any d.id (w.alloc (.cells d.cells.toArray 24)))
  have hw := op_wrap d.op
  have hc : d.op % 8 = 3 ∨ d.op % 8 = 4 ∨ d.op % 8 = 5 ∨ d.op % 8 = 6 ∨ d.op % 8 = 7 ∨ d.op % 8 = 0 ∨ d.op % 8 = 1 ∨ d.op % 8 = 2 := by omega
  rcases hc with t | t | t | t | t | t
  all_goals try rw [t] at hw
  · have e1 : doL most room d L = touch (keyOf d.id) L := by simp [doL, t]
    have e2 : doE most room d L = getE (keyOf d.id) L := by simp [doE, t]
    rw [e1, e2]
    have HR := Lib.hid (fun w2 (ho2 : Only (fun _ => False) (w.alloc (.cells d.cells.toArray 24)) w2) => rep_get (h1.frame ho2) hk)
    have HO := Lib.hid ho1
    clear e1 e2 ho1 h1 h hb t
    unfold D.cells Ptr at *
    go_enter Try.func35, Try.ntmps35
    go_wp2_with fail
    refine HS.out.mono ?_
    rintro e w2 ⟨rfl, ho2⟩
    have hr := HR.out w2 ho2
    have HR2 := Lib.hid hr; clear hr
    have HO2 := Lib.hid (HO.out.trans ho2); clear ho2
    go_wp2_with fail
    refine HR2.out.mono ?_
    rintro e w3 ⟨bo, cb, rfl, _, ht⟩
    have HT := Lib.hid (ht.pre HO2.out); clear ht
    go_wp2
    go_ret
    exact ⟨rfl, HT.out.more (by omega)⟩
  · have e1 : doL most room d L = pinL (· + 1) (keyOf d.id) L := by simp [doL, t]
    have e2 : doE most room d L = getE (keyOf d.id) L := by simp [doE, t]
    rw [e1, e2]
    have HR := Lib.hid (fun w2 (ho2 : Only (fun _ => False) (w.alloc (.cells d.cells.toArray 24)) w2) => rep_pin (h1.frame ho2) hk hp)
    have HO := Lib.hid ho1
    clear e1 e2 ho1 h1 h hb t
    unfold D.cells Ptr at *
    go_enter Try.func35, Try.ntmps35
    go_wp2_with fail
    refine HS.out.mono ?_
    rintro e w2 ⟨rfl, ho2⟩
    have hr := HR.out w2 ho2
    have HR2 := Lib.hid hr; clear hr
    have HO2 := Lib.hid (HO.out.trans ho2); clear ho2
    go_wp2_with fail
    refine HR2.out.mono ?_
    rintro e w3 ⟨rfl, ht⟩
    have HT := Lib.hid (ht.pre HO2.out); clear ht
    go_wp2
    go_ret
    exact ⟨rfl, HT.out.more (by omega)⟩
  · have e1 : doL most room d L = pinL (· - 1) (keyOf d.id) L := by simp [doL, t]
    have e2 : doE most room d L = unpinE (keyOf d.id) L := by simp [doE, t]
    rw [e1, e2]
    have HR := Lib.hid (fun w2 (ho2 : Only (fun _ => False) (w.alloc (.cells d.cells.toArray 24)) w2) => rep_unpin (h1.frame ho2) hk hp)
    have HO := Lib.hid ho1
    clear e1 e2 ho1 h1 h hb t
    unfold D.cells Ptr at *
    go_enter Try.func35, Try.ntmps35
    go_wp2_with fail
    refine HS.out.mono ?_
    rintro e w2 ⟨rfl, ho2⟩
    have hr := HR.out w2 ho2
    have HR2 := Lib.hid hr; clear hr
    have HO2 := Lib.hid (HO.out.trans ho2); clear ho2
    go_wp2_with fail
    refine HR2.out.mono ?_
    rintro e w3 ⟨rfl, ht⟩
    have HT := Lib.hid (ht.pre HO2.out); clear ht
    go_wp2
    go_ret
    exact ⟨rfl, HT.out.more (by omega)⟩
  · have e1 : doL most room d L = oth (keyOf d.id) L := by simp [doL, t]
    have e2 : doE most room d L = getE (keyOf d.id) L := by simp [doE, t]
    rw [e1, e2]
    have HR := Lib.hid (fun w2 (ho2 : Only (fun _ => False) (w.alloc (.cells d.cells.toArray 24)) w2) => rep_evict (h1.frame ho2) hk)
    have HO := Lib.hid ho1
    clear e1 e2 ho1 h1 h hb t
    unfold D.cells Ptr at *
    go_enter Try.func35, Try.ntmps35
    go_wp2_with fail
    refine HS.out.mono ?_
    rintro e w2 ⟨rfl, ho2⟩
    have hr := HR.out w2 ho2
    have HR2 := Lib.hid hr; clear hr
    have HO2 := Lib.hid (HO.out.trans ho2); clear ho2
    go_wp2_with fail
    refine HR2.out.mono ?_
    rintro e w3 ⟨rfl, ht⟩
    have HT := Lib.hid (ht.pre HO2.out); clear ht
    go_wp2
    go_ret
    exact ⟨rfl, HT.out.more (by omega)⟩
  · by_cases tn : d.n = 0
    · have e1 : doL most room d L = [] := by simp [doL, t, tn]
      have e2 : doE most room d L = 0 := by simp [doE, t]
      rw [e1, e2]
      have HR := Lib.hid (rep_wipe h1)
      have HO := Lib.hid ho1
      have tn' : (d.n == 0) = true := by simpa using tn
      clear e1 e2 ho1 h1 h hb t HS tn
      unfold D.cells Ptr at *
      go_enter Try.func35, Try.ntmps35
      go_wp2_with fail
      refine HR.out.mono ?_
      rintro e w3 ⟨rfl, ht⟩
      have HT := Lib.hid (ht.pre HO.out); clear ht
      go_wp2
      go_ret
      exact ⟨rfl, HT.out.more (by omega)⟩
    · have e1 : doL most room d L = L := by simp [doL, t, tn]
      have e2 : doE most room d L = 0 := by simp [doE, t]
      rw [e1, e2]
      have HR := Lib.hid (Then.same h ho1)
      clear e1 e2 ho1 h1 h hb t HS
      unfold D.cells Ptr at *
      have tn' : (d.n == 0) = false := by simpa using tn
      go_enter Try.func35, Try.ntmps35
      go_wp2
      go_ret
      exact ⟨rfl, HR.out.more (by omega)⟩
  · have e1 : doL most room d L = putL most room (keyOf d.id) d.b L := by simp only [doL]; rw [if_neg (by omega), if_neg (by omega), if_neg (by omega), if_neg (by omega), if_neg (by omega)]
    have e2 : doE most room d L = putE most room (keyOf d.id) d.b.length L := by simp only [doE]; rw [if_neg (by omega), if_neg (by omega), if_neg (by omega), if_neg (by omega), if_neg (by omega)]
    rw [e1, e2]
    have hlt := h.low
    have hnw : ¬ F w.heap.size := fun hf => absurd (h.low _ hf) (by omega)
    have h2 := fun w2 (ho2 : Only (fun _ => False) (w.alloc (.cells d.cells.toArray 24)) w2) => rep_put (h1.frame ho2) hk (ao := d.ao) (b := d.b) (cap := d.cap) ((hb.frame' (ho1.trans ho2)))  hl
    have HR := Lib.hid h2
    have HO := Lib.hid ho1
    have hq3 : d.op % 8 ≠ 3 := by omega
    have hq4 : d.op % 8 ≠ 4 := by omega
    have hq5 : d.op % 8 ≠ 5 := by omega
    have hq6 : d.op % 8 ≠ 6 := by omega
    have hq7 : d.op % 8 ≠ 7 := by omega
    have b3 : (d.op % 8 == 3) = false := by simpa using hq3
    have b4 : (d.op % 8 == 4) = false := by simpa using hq4
    have b5 : (d.op % 8 == 5) = false := by simpa using hq5
    have b6 : (d.op % 8 == 6) = false := by simpa using hq6
    have b7 : (d.op % 8 == 7) = false := by simpa using hq7
    clear e1 e2 ho1 h1 h hb t h2 hq3 hq4 hq5 hq6 hq7
    unfold D.cells Ptr at *
    go_enter Try.func35, Try.ntmps35
    go_wp2_with fail
    have c1 : (w.alloc (.cells #[Value.int IntKind.i64 d.op, Value.int IntKind.i64 d.id, Value.slice d.ao d.b.length d.cap, Value.int IntKind.i64 d.n] 24)).drew.cell? ⟨w.heap.size, 1, none⟩ = some (.int .i64 d.id) := cell_of_row _ _ _ _ _ _ (heap_alloc_new w _)
    have c2 : (w.alloc (.cells #[Value.int IntKind.i64 d.op, Value.int IntKind.i64 d.id, Value.slice d.ao d.b.length d.cap, Value.int IntKind.i64 d.n] 24)).drew.cell? ⟨w.heap.size, 2, none⟩ = some (.slice d.ao d.b.length d.cap) := cell_of_row _ _ _ _ _ _ (heap_alloc_new w _)
    clear HS hw b3 b4 b5 b6 b7
    generalize w.alloc (.cells #[Value.int IntKind.i64 d.op, Value.int IntKind.i64 d.id, Value.slice d.ao d.b.length d.cap, Value.int IntKind.i64 d.n] 24) = wa at *
    have HS := Lib.hid (sum_any d.id wa.drew)
    have HNW := Lib.hid hnw; clear hnw hlt
    have hwd : Only (fun _ => False) wa wa.drew := (Only.refl _ wa).drew
    have HWD := Lib.hid hwd; clear hwd
    go_region_held3 (fun w' => w'.cell? ⟨w.heap.size, 1, none⟩ = some (.int .i64 d.id) ∧ w'.cell? ⟨w.heap.size, 2, none⟩ = some (.slice d.ao d.b.length d.cap)) (first | with_reducible exact ⟨c1, c2⟩ | with_reducible exact ⟨c21, c22⟩ | with_reducible exact ⟨c31, c32⟩) (first
      | (go_at_call 14; refine HS.out.mono ?_; rintro e w2 ⟨rfl, ho2⟩; have c21 : w2.cell? ⟨w.heap.size, 1, none⟩ = some (.int .i64 d.id) := ho2.cell c1 (fun h => h); have c22 : w2.cell? ⟨w.heap.size, 2, none⟩ = some (.slice d.ao d.b.length d.cap) := ho2.cell c2 (fun h => h); have HR2 := Lib.hid (HR.out w2 (HWD.out.trans ho2)); have HO2 := Lib.hid ((HO.out.trans HWD.out).trans ho2); clear ho2)
      | (go_at_call 17; refine HR2.out.mono ?_; rintro e w3 ⟨rfl, ht⟩; have c31 : w3.cell? ⟨w.heap.size, 1, none⟩ = some (.int .i64 d.id) := ht.only.cell c21 HNW.out; have c32 : w3.cell? ⟨w.heap.size, 2, none⟩ = some (.slice d.ao d.b.length d.cap) := ht.only.cell c22 HNW.out; have HT := Lib.hid (ht.pre HO2.out); clear ht))
    go_wp2
    go_ret
    exact ⟨rfl, HT.out.more (by omega)⟩
end
end Go.Proofs.Ytafeiankpckijaa
