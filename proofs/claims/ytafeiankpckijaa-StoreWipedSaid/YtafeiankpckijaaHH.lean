/- The walk of StoreWiped. -/
import Derived.Test.YtafeiankpckijaaGG
namespace Go.Proofs.Ytafeiankpckijaa
open Go.RowKit
set_option linter.unusedSimpArgs false
set_option linter.unusedVariables false
attribute [local go_sem ↓] Go.wp_at_zero Go.wp_at_succ
/-- Two stores that share no block, the same list in both. -/
structure Two (W w : World) (a b most room i : Nat) (L : List Chunk) : Prop where
  only : Only (fun _ => False) W w
  all : ∃ Fa Fb, Has W w a most room i Fa L ∧ Has W w b most room i Fb L ∧ Apart Fa Fb
theorem act_two {W w : World} {a b most room i j : Nat} {Fa Fb : Nat → Prop} {L M : List Chunk} (ho : Only (fun _ => False) W w) (ha : Has W w a most room i Fa L) (hb : Has W w b most room j Fb M) (h1 : Apart Fa Fb)
    {d : D} (hi : i < 1000000000) (hd : DataAt W (fun y => y < W.heap.size) d.ao d.b) (hl : d.b.length ≤ 1000000) :
    Calls Try.prog 35 #[Ptr a, .agg d.cells.toArray] w fun e w' => e = .returned (.int .i64 (doE most room d L)) ∧ Only Fa w w' ∧ Only (fun _ => False) W w' ∧ ∃ Fa', Has W w' a most room (i + 1) Fa' (doL most room d L) ∧ Has W w' b most room j Fb M ∧ Apart Fa' Fb := by
  refine (does_any ha.rep hi ((hd.mono (fun y hy hf => by have := ha.new y hf; omega)).frame' ho) hl).mono ?_
  rintro e w' ⟨rfl, ht⟩
  obtain ⟨Fa', g1, g2, g3, g4⟩ := act ha hb h1 ho.size ht
  exact ⟨rfl, ht.only, then_only ha ho ht, Fa', g1, g2, g3⟩
theorem wipe_two {W w : World} {a b most room i j : Nat} {Fa Fb : Nat → Prop} {L M : List Chunk} (ho : Only (fun _ => False) W w) (ha : Has W w a most room i Fa L) (hb : Has W w b most room j Fb M) (h1 : Apart Fa Fb) :
    Calls Try.prog 15 #[Ptr a] w fun e w' => e = .returned (.tuple #[]) ∧ Only (fun _ => False) W w' ∧ ∃ Fa', Has W w' a most room 0 Fa' [] ∧ Has W w' b most room j Fb M ∧ Apart Fa' Fb := by
  refine (rep_wipe ha.rep).mono ?_
  rintro e w' ⟨rfl, ht⟩
  obtain ⟨Fa', g1, g2, g3, g4⟩ := act ha hb h1 ho.size ht
  exact ⟨rfl, then_only ha ho ht, Fa', g1, g2, g3⟩
theorem Has.bytes {W w : World} {a most room p : Nat} {F : Nat → Prop} {L : List Chunk} (h : Has W w a most room p F L) : Calls Try.prog 23 #[Ptr a] w fun e w' => e = .returned (.int .i64 (sB L)) ∧ w' = w := rep_bytes h.rep
theorem Has.len {W w : World} {a most room p : Nat} {F : Nat → Prop} {L : List Chunk} (h : Has W w a most room p F L) : Calls Try.prog 22 #[Ptr a] w fun e w' => e = .returned (.int .i64 L.length) ∧ w' = w := rep_len h.rep
set_option maxRecDepth 100000 in
set_option maxHeartbeats 8000000 in
theorem wiped_law (AW : Awake) (W : World) (n r : Int) (lo : Option Addr) (ds : List D) (cap : Nat) (lo2 : Option Addr) (es : List D) (cap2 : Nat) (hd : Dos W lo ds) (hold : Old W W.heap.size ds) (hl : ds.length ≤ 3000000000000)
    (hd2 : Dos W lo2 es) (hold2 : Old W W.heap.size es) (hl2 : es.length ≤ 3000000000000) :
    Calls Try.prog 12 #[.int .i64 n, .int .i64 r, .slice lo ds.length cap, .slice lo2 es.length cap2] W (Law W) := by
  have K1 := Lib.hid (made_law W n r lo ds cap hd hold hl)
  have K2 := Lib.hid (fun w => made_law w n r none [] 0 (fun i d h => by simp at h) (fun d h => by cases h) (by simp))
  have HAW := Lib.hid AW; clear AW
  have HE := Lib.hid (And.intro hd2 hold2); clear hd2 hold2 hd hold
  go_enter Try.func12, Try.ntmps12
  go_wp2_with fail
  refine K1.out.mono ?_
  rintro e w1 ⟨v1, ok1, rfl, ho1, hm1⟩
  have HO1 := Lib.hid ho1
  have HM1 := Lib.hid hm1; clear ho1 hm1
  go_wp2_with fail
  refine (K2.out _).mono ?_
  rintro e w2 ⟨v2, ok2, rfl, ho2, hm2⟩
  have HO2 := Lib.hid (HO1.out.trans ho2)
  have HM2 := Lib.hid hm2; clear ho2 hm2
  have KS2 := Lib.hid (short_any w2 lo2 es cap2 (HE.out.1.frame HO2.out (fun _ _ h => h)) hl2)
  have KA := Lib.hid (HAW.out w2)
  cases ok1 with
  | false =>
    go_wp2_with fail
    refine KA.out.mono ?_
    rintro e w4 ⟨rfl, ho⟩
    have HO4 := Lib.hid (HO2.out.trans ho); clear ho
    go_wp2
    go_ret
    exact ⟨rfl, HO4.out⟩
  | true =>
  cases ok2 with
  | false =>
    go_wp2_with fail
    refine KA.out.mono ?_
    rintro e w4 ⟨rfl, ho⟩
    have HO4 := Lib.hid (HO2.out.trans ho); clear ho
    go_wp2
    go_ret
    exact ⟨rfl, HO4.out⟩
  | true =>
  go_wp2_with fail
  refine KS2.out.mono ?_
  rintro e w5 ⟨q2, rfl, rfl, hq2⟩
  have HQ2 := Lib.hid hq2; clear hq2
  cases q2 with
  | false =>
    go_wp2_with fail
    refine KA.out.mono ?_
    rintro e w4 ⟨rfl, ho⟩
    have HO4 := Lib.hid (HO2.out.trans ho); clear ho
    go_wp2
    go_ret
    exact ⟨rfl, HO4.out⟩
  | true =>
  obtain ⟨a, rfl, ma, -, -⟩ := HM1.out trivial
  obtain ⟨b, rfl, mb, -, -⟩ := HM2.out trivial
  have HQ := Lib.hid (HQ2.out rfl)
  obtain ⟨Fa, ra, na⟩ := ma.rep
  obtain ⟨Fb, rb, nb⟩ := mb.rep
  have hsz := ma.only.size
  have KW := Lib.hid (wipe_two HO2.out (⟨ra.frame mb.only, na⟩ : Has W _ a _ _ _ Fa _) (⟨rb, fun y hy => Nat.le_trans hsz (nb y hy)⟩ : Has W _ b _ _ _ Fb _) (fun y hy hy' => by have := ra.low y hy; have := nb y hy'; omega))
  clear ma mb HM1 HM2 HO1 KS2 KA K1 K2 HQ2 ra na rb nb hsz
  unfold Ptr at *
  go_wp2_with fail
  refine KW.out.mono ?_
  rintro e w3 ⟨rfl, hoW, Fa', ha, hb, hap⟩
  have HT := Lib.hid (show Two W w3 a b (mostOf n) (roomOf r) 0 [] from ⟨hoW, _, _, ha, hb, hap⟩)
  have KL0 := Lib.hid ha.len
  have KB0 := Lib.hid ha.bytes
  have KI0 := Lib.hid ha.list
  clear hoW ha hb hap KW
  unfold Ptr at *
  go_wp2_with fail
  refine KL0.out.mono ?_
  rintro e w4 ⟨rfl, rfl⟩
  go_wp2_with fail
  refine KB0.out.mono ?_
  rintro e w5 ⟨rfl, rfl⟩
  go_wp2_with fail
  refine KI0.out.mono ?_
  rintro e w6 ⟨vl, rfl, ⟨ao, cp, rfl, -⟩, ho6⟩
  have HT6 : Hid (Two W w6 a b (mostOf n) (roomOf r) 0 []) := by
    obtain ⟨h0, Fa, Fb, ha, hb, hap⟩ := HT.out
    exact Lib.hid ⟨h0.trans ho6, Fa, Fb, ha.frame ho6, hb.frame ho6, hap⟩
  clear ho6 HT KL0 KB0 KI0
  have hz1 : (([] : List Chunk).length : Int) = 0 := rfl
  have hz2 : ((sB [] : Nat) : Int) = 0 := rfl
  have hz3 : wrap64 0 = 0 := by unfold wrap64; rfl
  go_wp2_with fail
  go_loopg [54] es.length (fun g v wl => ∃ i : Nat, v = .int .i64 i ∧ Hid (i + g = es.length ∧ ∃ L, Two W wl a b (mostOf n) (roomOf r) i L))
  case atStart => exact ⟨0, rfl, Lib.hid ⟨by omega, [], HT6.out⟩⟩
  case round =>
    obtain ⟨i, rfl, hh⟩ := hrel
    obtain ⟨hig, L, hth⟩ := hh.out
    clear hh HT6 hz1 hz2 hz3
    have hq1 := HQ.out.1
    by_cases hi : i < es.length
    · have hi' : (i : Int) < (es.length : Int) := by omega
      have b0 : (0 : Int) ≤ i := by omega
      have hmem : es[i] ∈ es := List.getElem_mem hi
      obtain ⟨sb, so, h1, h2, h3, h4, h5⟩ := HE.out.1.frame hth.only (fun _ _ h => h) i es[i] (List.getElem?_eq_getElem hi)
      have hdat : DataAt W (fun y => y < W.heap.size) es[i].ao es[i].b := HE.out.2 _ hmem
      have hlm : es[i].b.length ≤ 1000000 := by have := len_mem hmem; have := HQ.out.2; omega
      generalize es[i] = d at *
      have h1' := Lib.hid h1; clear h1
      obtain rfl := h1'.out
      clear h1' hmem
      have HX := Lib.hid (And.intro hdat hlm); clear hdat hlm
      have hbox := heap_alloc_new wr (.cells d.cells.toArray 24)
      have hlow : ∀ F : Nat → Prop, (∀ y, F y → y < wr.heap.size) → ¬ F wr.heap.size := fun F h hf => absurd (h _ hf) (by omega)
      obtain ⟨Fa, Fb, ha, hb, hap⟩ := hth.all
      have ho1 : Only (fun _ => False) wr (wr.alloc (.cells d.cells.toArray 24)) := (Only.refl _ wr).alloc _
      have HGB := Lib.hid (And.intro (hlow Fa ha.rep.low) (hlow Fb hb.rep.low))
      have HA := Lib.hid (And.intro (ha.frame ho1) (And.intro (hb.frame ho1) hap))
      have HOV := Lib.hid (hth.only.trans ho1)
      have HBX : Hid ((wr.alloc (.cells d.cells.toArray 24)).cell? ⟨wr.heap.size, 0, none⟩ = some (.int .i64 d.op) ∧ (wr.alloc (.cells d.cells.toArray 24)).cell? ⟨wr.heap.size, 1, none⟩ = some (.int .i64 d.id) ∧ (wr.alloc (.cells d.cells.toArray 24)).cell? ⟨wr.heap.size, 2, none⟩ = some (.slice d.ao d.b.length d.cap) ∧ (wr.alloc (.cells d.cells.toArray 24)).cell? ⟨wr.heap.size, 3, none⟩ = some (.int .i64 d.n)) :=
        Lib.hid ⟨cell_of_row _ _ _ _ _ _ hbox, cell_of_row _ _ _ _ _ _ hbox, cell_of_row _ _ _ _ _ _ hbox, cell_of_row _ _ _ _ _ _ hbox⟩
      clear hth hbox hlow ha hb hap ho1
      unfold D.cells at HA HOV HBX
      go_upto_region 11 with fail
      generalize wr.alloc (.cells #[Value.int .i64 d.op, .int .i64 d.id, .slice d.ao d.b.length d.cap, .int .i64 d.n] 24) = wv at *
      generalize wr.heap.size = gb at *
      have hwd : Only (fun _ => False) wv wv.drew := (Only.refl _ wv).drew
      have KDA := Lib.hid (act_two (HOV.out.trans hwd) (HA.out.1.frame hwd) (HA.out.2.1.frame hwd) HA.out.2.2 (d := d) (by omega) HX.out.1 HX.out.2)
      unfold D.cells Ptr at KDA
      have d0 : wv.drew.cell? ⟨gb, 0, none⟩ = some (.int .i64 d.op) := HBX.out.1
      have d1 : wv.drew.cell? ⟨gb, 1, none⟩ = some (.int .i64 d.id) := HBX.out.2.1
      have d2 : wv.drew.cell? ⟨gb, 2, none⟩ = some (.slice d.ao d.b.length d.cap) := HBX.out.2.2.1
      have d3 : wv.drew.cell? ⟨gb, 3, none⟩ = some (.int .i64 d.n) := HBX.out.2.2.2
      clear hwd
      go_wp2_with fail
      go_region_held3 (fun w' => w'.cell? ⟨gb, 0, none⟩ = some (.int .i64 d.op) ∧ w'.cell? ⟨gb, 1, none⟩ = some (.int .i64 d.id) ∧ w'.cell? ⟨gb, 2, none⟩ = some (.slice d.ao d.b.length d.cap) ∧ w'.cell? ⟨gb, 3, none⟩ = some (.int .i64 d.n))
        (first | with_reducible exact ⟨d0, d1, d2, d3⟩ | with_reducible exact ⟨f0, f1, f2, f3⟩ | with_reducible exact ⟨g0, g1, g2, g3⟩ | with_reducible exact ⟨m0, m1, m2, m3⟩ | with_reducible exact ⟨n0, n1, n2, n3⟩ | with_reducible exact ⟨o0, o1, o2, o3⟩) (first
        | (go_at_call 35; refine KDB.out.mono ?_; rintro e wy ⟨rfl, hoy, hoW, Fb', kb, ka, kap⟩; have g0 := hoy.cell f0 HGB.out.2; have g1 := hoy.cell f1 HGB.out.2; have g2 := hoy.cell f2 HGB.out.2; have g3 := hoy.cell f3 HGB.out.2; have HFA := Lib.hid ka; have HFB := Lib.hid kb; have HOW := Lib.hid hoW; have HAP := Lib.hid kap; have KLA := Lib.hid ka.list; unfold Ptr at KLA; clear KDB hoy hoW kb ka kap)
        | (go_at_call 35; refine KDA.out.mono ?_; rintro e wx ⟨rfl, hox, hoW, Fa', ka, kb, k1⟩; have f0 := hox.cell d0 HGB.out.1; have f1 := hox.cell d1 HGB.out.1; have f2 := hox.cell d2 HGB.out.1; have f3 := hox.cell d3 HGB.out.1; have KDB := Lib.hid (act_two hoW kb ka k1.symm (d := d) (by omega) HX.out.1 HX.out.2); unfold D.cells Ptr at KDB; clear KDA hox hoW ka kb k1)
        | (go_at_call 24; refine KLB.out.mono ?_; rintro e wb ⟨vb, rfl, hkb, hob⟩; have n0 := hob.cell m0 (fun h => h); have n1 := hob.cell m1 (fun h => h); have n2 := hob.cell m2 (fun h => h); have n3 := hob.cell m3 (fun h => h); have HOB := Lib.hid hob; have KEQ := Lib.hid (eq_same (HKA.out.frame hob) hkb (by have := HFA.out.rep.bounds; simp; omega)); clear KLB hob hkb)
        | (go_at_call 24; refine KLA.out.mono ?_; rintro e wa ⟨va, rfl, hka, hoa⟩; have m0 := hoa.cell g0 (fun h => h); have m1 := hoa.cell g1 (fun h => h); have m2 := hoa.cell g2 (fun h => h); have m3 := hoa.cell g3 (fun h => h); have HOA := Lib.hid hoa; have HKA := Lib.hid hka; have KLB := Lib.hid (HFB.out.frame hoa).list; unfold Ptr at KLB; clear KLA hoa hka)
        | (go_at_call 38; refine KEQ.out.mono ?_; rintro e we ⟨rfl, hoe⟩; have o0 := hoe.cell n0 (fun h => h); have o1 := hoe.cell n1 (fun h => h); have o2 := hoe.cell n2 (fun h => h); have o3 := hoe.cell n3 (fun h => h); have HOE := Lib.hid ((HOA.out.trans HOB.out).trans hoe); have KBA := Lib.hid (HFA.out.frame HOE.out).bytes; have KBB := Lib.hid (HFB.out.frame HOE.out).bytes; unfold Ptr at KBA KBB; clear KEQ hoe)
        | (go_at_call 23; (with_reducible (first | refine KBA.out.mono ?_ | refine KBB.out.mono ?_)); rintro e wz ⟨rfl, rfl⟩))
      have hth : Two W wz a b (mostOf n) (roomOf r) (i + 1) (doL (mostOf n) (roomOf r) d L) := ⟨HOW.out.trans HOE.out, _, _, HFA.out.frame HOE.out, HFB.out.frame HOE.out, HAP.out.symm⟩
      have HTH := Lib.hid hth
      clear hth
      go_wp2
      go_roundg (es.length - (i + 1))
      case measure => omega
      case rel => exact ⟨i + 1, by go_num, Lib.hid ⟨by omega, _, HTH.out⟩⟩
    · have hi' : ¬ (i : Int) < (es.length : Int) := by omega
      have HO := Lib.hid hth.only
      clear hth
      go_wp2_with fail
      refine (HAW.out _).mono ?_
      rintro e w4 ⟨rfl, ho4⟩
      have HO4 := Lib.hid (HO.out.trans ho4)
      clear ho4
      go_wp2
      go_ret
      exact ⟨rfl, HO4.out⟩
end Go.Proofs.Ytafeiankpckijaa
