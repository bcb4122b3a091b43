/- The walk of StoreApart. -/
import Derived.Test.YtafeiankpckijaaEE
import Derived.Deep.Cut
namespace Go.Proofs.Ytafeiankpckijaa
open Go.RowKit
set_option linter.unusedSimpArgs false
set_option linter.unusedVariables false
attribute [local go_sem ↓] Go.wp_at_zero Go.wp_at_succ
def Awake : Prop := ∀ W : World, Calls Try.prog 25 #[] W fun e w' => e = .returned (.bool true) ∧ Only (fun _ => False) W w'
/-- What a law says. -/
def Law (W : World) (e : Ending) (w' : World) : Prop := e = .returned (.bool true) ∧ Only (fun _ => False) W w'
/-- A store with its own blocks. -/
structure Has (W w : World) (a most room p : Nat) (F : Nat → Prop) (L : List Chunk) : Prop where
  rep : Rep w a F most room p L
  new : ∀ y, F y → W.heap.size ≤ y
theorem Has.frame {W w w' : World} {a most room p : Nat} {F : Nat → Prop} {L : List Chunk} (h : Has W w a most room p F L) (ho : Only (fun _ => False) w w') : Has W w' a most room p F L := ⟨h.rep.frame ho, h.new⟩
def Apart (F G : Nat → Prop) : Prop := ∀ y, F y → ¬ G y
/-- One of two is acted on; the other one stands as it stood. -/
theorem act {W w w' : World} {a b most room p q m2 r2 p2 : Nat} {F G : Nat → Prop} {L L' M : List Chunk} (h : Has W w a most room p F L) (h2 : Has W w b m2 r2 p2 G M) (hd : Apart F G) (hw : W.heap.size ≤ w.heap.size) (ht : Then w a F most room q L' w') :
    ∃ F', Has W w' a most room q F' L' ∧ Has W w' b m2 r2 p2 G M ∧ Apart F' G ∧ (∀ H : Nat → Prop, Apart F H → (∀ y, H y → y < w.heap.size) → Apart F' H) := by
  obtain ⟨F', h3, h4⟩ := ht.rep
  have key : ∀ H : Nat → Prop, Apart F H → (∀ y, H y → y < w.heap.size) → Apart F' H := fun H hH hlow y hy hyH => by
    rcases h4.new y hy with hf | hn
    · exact hH y hf hyH
    · have := hlow y hyH; omega
  refine ⟨F', ⟨h3, fun y hy => ?_⟩, ⟨h2.rep.apart ht.only (fun k hk hf => hd k hf hk), h2.new⟩, key G hd h2.rep.low, key⟩
  rcases h4.new y hy with hf | hn
  · exact h.new y hf
  · omega
theorem then_only {W w w' : World} {a most room p q : Nat} {F : Nat → Prop} {L L' : List Chunk} (h : Has W w a most room p F L) (ho : Only (fun _ => False) W w) (ht : Then w a F most room q L' w') : Only (fun _ => False) W w' :=
  ho.trans' ht.only (fun i hi hf => by have := h.new i hf; omega)
theorem Apart.symm {F G : Nat → Prop} (h : Apart F G) : Apart G F := fun y hg hf => h y hf hg
/-- Three stores: two alike, and one more; they share no block. -/
structure Three (W w : World) (a b c most room i : Nat) (L : List Chunk) : Prop where
  only : Only (fun _ => False) W w
  all : ∃ Fa Fb Fc M, Has W w a most room i Fa L ∧ Has W w b most room i Fb L ∧ Has W w c most room i Fc M ∧ Apart Fa Fb ∧ Apart Fa Fc ∧ Apart Fb Fc
theorem Has.more {W w : World} {a most room p q : Nat} {F : Nat → Prop} {L : List Chunk} (h : Has W w a most room p F L) (hq : p ≤ q) : Has W w a most room q F L := ⟨h.rep.more hq, h.new⟩
theorem three_start {W w1 w2 w3 : World} {a b c most room : Nat} (h1 : Mine W w1 a most room 0 []) (h2 : Mine w1 w2 b most room 0 []) (h3 : Mine w2 w3 c most room 0 []) : Three W w3 a b c most room 0 [] := by
  obtain ⟨Fa, ra, na⟩ := h1.rep
  obtain ⟨Fb, rb, nb⟩ := h2.rep
  obtain ⟨Fc, rc, nc⟩ := h3.rep
  have s1 := h1.only.size
  have s2 := h2.only.size
  have la := ra.low
  have lb := rb.low
  exact ⟨(h1.only.trans h2.only).trans h3.only, Fa, Fb, Fc, [], ⟨(ra.frame h2.only).frame h3.only, na⟩, ⟨rb.frame h3.only, fun y hy => Nat.le_trans s1 (nb y hy)⟩, ⟨rc, fun y hy => Nat.le_trans s1 (Nat.le_trans s2 (nc y hy))⟩,
    fun y hy hy' => by have := la y hy; have := nb y hy'; omega, fun y hy hy' => by have := la y hy; have := nc y hy'; omega, fun y hy hy' => by have := lb y hy; have := nc y hy'; omega⟩
theorem Three.frame {W w w' : World} {a b c most room i : Nat} {L : List Chunk} (h : Three W w a b c most room i L) (ho : Only (fun _ => False) w w') : Three W w' a b c most room i L := by
  obtain ⟨Fa, Fb, Fc, M, ha, hb, hc, h1, h2, h3⟩ := h.all
  exact ⟨h.only.trans ho, Fa, Fb, Fc, M, ha.frame ho, hb.frame ho, hc.frame ho, h1, h2, h3⟩
/-- The third one is acted on, whatever comes of it. -/
theorem Three.third {W w : World} {a b c most room i : Nat} {L : List Chunk} (h : Three W w a b c most room i L) {d : D} (hi : i < 1000000000) (hb : DataAt W (fun y => y < W.heap.size) d.ao d.b) (hl : d.b.length ≤ 1000000) :
    Calls Try.prog 35 #[Ptr c, .agg d.cells.toArray] w fun e w' => (∃ v, e = .returned (.int .i64 v)) ∧ ∃ Fa Fb Fc M, Only (fun _ => False) W w' ∧ Has W w' a most room i Fa L ∧ Has W w' b most room i Fb L ∧ Has W w' c most room (i + 1) Fc M ∧ Apart Fa Fb ∧ Apart Fa Fc ∧ Apart Fb Fc := by
  obtain ⟨Fa, Fb, Fc, M, ha, hb', hc, h1, h2, h3⟩ := h.all
  refine (does_any hc.rep hi ((hb.mono (fun y hy hf => by have := hc.new y hf; omega)).frame' h.only) hl).mono ?_
  rintro e w' ⟨rfl, ht⟩
  obtain ⟨Fc', g1, g2, g3, g4⟩ := act hc ha h2.symm h.only.size ht
  exact ⟨⟨_, rfl⟩, Fa, Fb, Fc', _, then_only hc h.only ht, g2, ⟨hb'.rep.apart ht.only (fun k hk hf => h3 k hk hf), hb'.new⟩, g1, h1, g3.symm, (g4 Fb h3.symm hb'.rep.low).symm⟩
/-- Both of the two are acted on alike. -/
theorem two_first {W w : World} {a b c most room i i2 j : Nat} {Fa Fb Fc : Nat → Prop} {L L2 M : List Chunk} (ho : Only (fun _ => False) W w) (ha : Has W w a most room i Fa L) (hb : Has W w b most room i2 Fb L2) (hc : Has W w c most room j Fc M) (h1 : Apart Fa Fb) (h2 : Apart Fa Fc) (h3 : Apart Fb Fc)
    {d : D} (hi : i < 1000000000) (hd : DataAt W (fun y => y < W.heap.size) d.ao d.b) (hl : d.b.length ≤ 1000000) {g : Nat} (hg : ¬ Fa g) :
    Calls Try.prog 35 #[Ptr a, .agg d.cells.toArray] w fun e w' => e = .returned (.int .i64 (doE most room d L)) ∧ Only Fa w w' ∧ Only (fun _ => False) W w' ∧ ∃ Fa', Has W w' a most room (i + 1) Fa' (doL most room d L) ∧ Has W w' b most room i2 Fb L2 ∧ Has W w' c most room j Fc M ∧ Apart Fa' Fb ∧ Apart Fa' Fc := by
  refine (does_any ha.rep hi ((hd.mono (fun y hy hf => by have := ha.new y hf; omega)).frame' ho) hl).mono ?_
  rintro e w' ⟨rfl, ht⟩
  obtain ⟨Fa', g1, g2, g3, g4⟩ := act ha hb h1 ho.size ht
  exact ⟨rfl, ht.only, then_only ha ho ht, Fa', g1, g2, ⟨hc.rep.apart ht.only (fun k hk hf => h2 k hf hk), hc.new⟩, g3, g4 Fc h2 hc.rep.low⟩
theorem Has.list {W w : World} {a most room p : Nat} {F : Nat → Prop} {L : List Chunk} (h : Has W w a most room p F L) : Calls Try.prog 24 #[Ptr a] w fun e w' => ∃ v, e = .returned v ∧ Keys w' v (L.map (·.key)) ∧ Only (fun _ => False) w w' := by
  refine (rep_list h.rep).mono ?_
  rintro e w' ⟨v, rfl, h3, h4⟩
  refine ⟨v, rfl, keys_of_owns (B := w.heap.size) (by simpa [List.flatMap_map] using h3) ?_, h4⟩
  intro k hk; obtain ⟨x, hx, rfl⟩ := List.mem_map.1 hk; exact h.rep.keys x hx
theorem eq_same {w : World} {v u : Value} {ks : List Nat} (h : Keys w v ks) (h' : Keys w u ks) (hl : ks.length ≤ 64) : Calls Try.prog 38 #[v, u] w fun e w' => e = .returned (.bool true) ∧ Only (fun _ => False) w w' := by
  refine (equal_any w v u ks ks h h' (by omega) (by omega)).mono ?_
  rintro e w' ⟨rfl, ho⟩; exact ⟨by simp, ho⟩
set_option maxRecDepth 100000 in
set_option maxHeartbeats 8000000 in
theorem apart_law (AW : Awake) (W : World) (n r : Int) (lo : Option Addr) (ds : List D) (cap : Nat) (lo2 : Option Addr) (es : List D) (cap2 : Nat) (hd : Dos W lo ds) (hold : Old W W.heap.size ds) (hl : ds.length ≤ 3000000000000)
    (hd2 : Dos W lo2 es) (hold2 : Old W W.heap.size es) (hl2 : es.length ≤ 3000000000000) :
    Calls Try.prog 7 #[.int .i64 n, .int .i64 r, .slice lo ds.length cap, .slice lo2 es.length cap2] W (Law W) := by
  have K1 := Lib.hid (fun w => made_law w n r none [] 0 (fun i d h => by simp at h) (fun d h => by cases h) (by simp))
  have HAW := Lib.hid AW; clear AW
  have HD := Lib.hid (And.intro hd hold); clear hd hold
  have HE := Lib.hid (And.intro hd2 hold2); clear hd2 hold2
  go_enter Try.func7, Try.ntmps7
  go_wp2_with fail
  refine (K1.out _).mono ?_
  rintro e w1 ⟨v1, ok1, rfl, ho1, hm1⟩
  have HO1 := Lib.hid ho1
  have HM1 := Lib.hid hm1; clear ho1 hm1
  go_wp2_with fail
  refine (K1.out _).mono ?_
  rintro e w2 ⟨v2, ok2, rfl, ho2, hm2⟩
  have HO2 := Lib.hid (HO1.out.trans ho2)
  have HM2 := Lib.hid hm2; clear ho2 hm2
  go_wp2_with fail
  refine (K1.out _).mono ?_
  rintro e w3 ⟨v3, ok3, rfl, ho3, hm3⟩
  have HO3 := Lib.hid (HO2.out.trans ho3)
  have HM3 := Lib.hid hm3; clear ho3 hm3
  have KS1 := Lib.hid (short_any w3 lo ds cap (HD.out.1.frame HO3.out (fun _ _ h => h)) hl)
  have KS2 := Lib.hid (short_any w3 lo2 es cap2 (HE.out.1.frame HO3.out (fun _ _ h => h)) hl2)
  have KA := Lib.hid (HAW.out w3)
  cases ok1 with
  | false =>
    go_wp2_with fail
    refine KA.out.mono ?_
    rintro e w4 ⟨rfl, ho⟩
    have HO4 := Lib.hid (HO3.out.trans ho); clear ho
    go_wp2
    go_ret
    exact ⟨rfl, HO4.out⟩
  | true =>
  cases ok2 with
  | false =>
    go_wp2_with fail
    refine KA.out.mono ?_
    rintro e w4 ⟨rfl, ho⟩
    have HO4 := Lib.hid (HO3.out.trans ho); clear ho
    go_wp2
    go_ret
    exact ⟨rfl, HO4.out⟩
  | true =>
  cases ok3 with
  | false =>
    go_wp2_with fail
    refine KA.out.mono ?_
    rintro e w4 ⟨rfl, ho⟩
    have HO4 := Lib.hid (HO3.out.trans ho); clear ho
    go_wp2
    go_ret
    exact ⟨rfl, HO4.out⟩
  | true =>
  go_wp2_with fail
  refine KS1.out.mono ?_
  rintro e w4 ⟨q1, rfl, rfl, hq1⟩
  have HQ1 := Lib.hid hq1; clear hq1
  cases q1 with
  | false =>
    go_wp2_with fail
    refine KA.out.mono ?_
    rintro e w4 ⟨rfl, ho⟩
    have HO4 := Lib.hid (HO3.out.trans ho); clear ho
    go_wp2
    go_ret
    exact ⟨rfl, HO4.out⟩
  | true =>
  go_wp2_with fail
  refine KS2.out.mono ?_
  rintro e w5 ⟨q2, rfl, rfl, hq2⟩
  have HQ2 := Lib.hid hq2; clear hq2
  cases q2 with
  | false =>
    go_wp2_with fail
    refine KA.out.mono ?_
    rintro e w4 ⟨rfl, ho⟩
    have HO4 := Lib.hid (HO3.out.trans ho); clear ho
    go_wp2
    go_ret
    exact ⟨rfl, HO4.out⟩
  | true =>
  obtain ⟨a, rfl, ma, -, -⟩ := HM1.out trivial
  obtain ⟨b, rfl, mb, -, -⟩ := HM2.out trivial
  obtain ⟨c, rfl, mc, -, -⟩ := HM3.out trivial
  have hth := three_start ma mb mc
  have HQ : Hid ((ds.length ≤ 300 ∧ lenD ds ≤ 65536) ∧ es.length ≤ 300 ∧ lenD es ≤ 65536) := Lib.hid ⟨HQ1.out trivial, HQ2.out rfl⟩
  have HTH0 := Lib.hid hth
  clear hth ma mb mc HM1 HM2 HM3 HO1 HO2 HO3 KS1 KS2 KA K1 HQ1 HQ2
  go_wp2_with fail
  go_loopg [58] ds.length (fun g v wl => ∃ i : Nat, v = .int .i64 i ∧ Hid (i + g = ds.length ∧ ∃ L, Three W wl a b c (mostOf n) (roomOf r) i L))
  case atStart => exact ⟨0, rfl, Lib.hid ⟨by omega, [], HTH0.out⟩⟩
  case round =>
    obtain ⟨i, rfl, hh⟩ := hrel
    obtain ⟨hig, L, hth⟩ := hh.out
    clear hh HTH0
    have hq1 := HQ.out.1.1
    by_cases hi : i < ds.length
    · have hi' : (i : Int) < (ds.length : Int) := by omega
      have b0 : (0 : Int) ≤ i := by omega
      have hmem : ds[i] ∈ ds := List.getElem_mem hi
      obtain ⟨sb, so, h1, h2, h3, h4, h5⟩ := HD.out.1.frame hth.only (fun _ _ h => h) i ds[i] (List.getElem?_eq_getElem hi)
      have hdat : DataAt W (fun y => y < W.heap.size) ds[i].ao ds[i].b := HD.out.2 _ hmem
      have hlm : ds[i].b.length ≤ 1000000 := by have := len_mem hmem; have := HQ.out.1.2; omega
      generalize ds[i] = d at *
      have h1' := Lib.hid h1; clear h1
      obtain rfl := h1'.out
      clear h1' hmem
      have hth1 : Three W (wr.alloc (.cells d.cells.toArray 24)) a b c (mostOf n) (roomOf r) i L := hth.frame ((Only.refl _ wr).alloc _)
      have HX := Lib.hid (And.intro hdat hlm); clear hdat hlm
      have hbox := heap_alloc_new wr (.cells d.cells.toArray 24)
      have hlow : ∀ F : Nat → Prop, (∀ y, F y → y < wr.heap.size) → ¬ F wr.heap.size := fun F h hf => absurd (h _ hf) (by omega)
      by_cases hj : i < es.length
      · have hj' : (i : Int) < (es.length : Int) := by omega
        obtain ⟨Fa, Fb, Fc, M, ha, hb, hc, h1, h2', h3'⟩ := hth.all
        have ho1 : Only (fun _ => False) wr (wr.alloc (.cells d.cells.toArray 24)) := (Only.refl _ wr).alloc _
        have hmem : es[i] ∈ es := List.getElem_mem hj
        obtain ⟨sb2, so2, y1, y2, y3, y4, y5⟩ := HE.out.1.frame (hth.only.trans ho1) (fun _ _ h => h) i es[i] (List.getElem?_eq_getElem hj)
        have hdat : DataAt W (fun y => y < W.heap.size) es[i].ao es[i].b := HE.out.2 _ hmem
        have hlm : es[i].b.length ≤ 1000000 := by have := len_mem hmem; have := HQ.out.2.2; omega
        generalize es[i] = e2 at *
        have h1' := Lib.hid y1; clear y1
        obtain rfl := h1'.out
        clear h1' hmem
        have KDC := Lib.hid (two_first (hth.only.trans ho1) (hc.frame ho1) (ha.frame ho1) (hb.frame ho1) h2'.symm h3'.symm h1 (d := e2) (by omega) hdat hlm (g := wr.heap.size) (hlow Fc hc.rep.low))
        have HGB := Lib.hid (And.intro (hlow Fa ha.rep.low) (And.intro (hlow Fb hb.rep.low) (And.intro (hlow Fc hc.rep.low) h1)))
        have HBX : Hid ((wr.alloc (.cells d.cells.toArray 24)).cell? ⟨wr.heap.size, 0, none⟩ = some (.int .i64 d.op) ∧ (wr.alloc (.cells d.cells.toArray 24)).cell? ⟨wr.heap.size, 1, none⟩ = some (.int .i64 d.id) ∧ (wr.alloc (.cells d.cells.toArray 24)).cell? ⟨wr.heap.size, 2, none⟩ = some (.slice d.ao d.b.length d.cap) ∧ (wr.alloc (.cells d.cells.toArray 24)).cell? ⟨wr.heap.size, 3, none⟩ = some (.int .i64 d.n)) :=
          Lib.hid ⟨cell_of_row _ _ _ _ _ _ hbox, cell_of_row _ _ _ _ _ _ hbox, cell_of_row _ _ _ _ _ _ hbox, cell_of_row _ _ _ _ _ _ hbox⟩
        clear hth hth1 hbox hlow ha hb hc h1 h2' h3' ho1 hdat hlm
        unfold D.cells Ptr at KDC
        unfold D.cells at HBX y2 y3 y4 y5
        go_wp2_with fail
        refine KDC.out.mono ?_
        rintro e wv ⟨rfl, hoz, hoW, Fc', kc, ka, kb, k1, k2⟩
        generalize wr.alloc (.cells #[Value.int .i64 d.op, .int .i64 d.id, .slice d.ao d.b.length d.cap, .int .i64 d.n] 24) = wv0 at *
        generalize wr.heap.size = gb at *
        have HA := Lib.hid (And.intro ka (And.intro kb (And.intro kc (And.intro HGB.out.2.2.2 (And.intro k1.symm k2.symm)))))
        have HOV := Lib.hid hoW
        have hbx := HBX.out
        have hg3 := HGB.out.2.2.1
        have HBY := Lib.hid (And.intro (hoz.cell hbx.1 hg3) (And.intro (hoz.cell hbx.2.1 hg3) (And.intro (hoz.cell hbx.2.2.1 hg3) (hoz.cell hbx.2.2.2 hg3))))
        have HGC := Lib.hid (And.intro HGB.out.1 HGB.out.2.1)
        have PJ : i + 1 ≤ i + 1 := Nat.le_refl _
        clear HBX HGB KDC hoz hoW kc ka kb k1 k2 hbx hg3 y2 y3 y4 y5 h2 h3 h4 h5
        have hwd : Only (fun _ => False) wv wv.drew := (Only.refl _ wv).drew
        have KDA := Lib.hid (two_first (HOV.out.trans hwd) (HA.out.1.frame hwd) (HA.out.2.1.frame hwd) (HA.out.2.2.1.frame hwd) HA.out.2.2.2.1 HA.out.2.2.2.2.1 HA.out.2.2.2.2.2 (d := d) (by omega) HX.out.1 HX.out.2 (g := gb) (fun hf => absurd (HGC.out.1 hf) (by simp)))
        unfold D.cells Ptr at KDA
        have d0 : wv.drew.cell? ⟨gb, 0, none⟩ = some (.int .i64 d.op) := HBY.out.1
        have d1 : wv.drew.cell? ⟨gb, 1, none⟩ = some (.int .i64 d.id) := HBY.out.2.1
        have d2 : wv.drew.cell? ⟨gb, 2, none⟩ = some (.slice d.ao d.b.length d.cap) := HBY.out.2.2.1
        have d3 : wv.drew.cell? ⟨gb, 3, none⟩ = some (.int .i64 d.n) := HBY.out.2.2.2
        clear hwd
        go_wp2_with fail
        go_region_held3 (fun w' => w'.cell? ⟨gb, 0, none⟩ = some (.int .i64 d.op) ∧ w'.cell? ⟨gb, 1, none⟩ = some (.int .i64 d.id) ∧ w'.cell? ⟨gb, 2, none⟩ = some (.slice d.ao d.b.length d.cap) ∧ w'.cell? ⟨gb, 3, none⟩ = some (.int .i64 d.n))
          (first | with_reducible exact ⟨d0, d1, d2, d3⟩ | with_reducible exact ⟨f0, f1, f2, f3⟩ | with_reducible exact ⟨g0, g1, g2, g3⟩) (first
          | (go_at_call 35; refine KDB.out.mono ?_; rintro e wy ⟨rfl, hoy, hoW, hall⟩; have g0 := hoy.cell f0 HGC.out.2; have g1 := hoy.cell f1 HGC.out.2; have g2 := hoy.cell f2 HGC.out.2; have g3 := hoy.cell f3 HGC.out.2; have HFIN := Lib.hid (And.intro hoW hall); clear hoy hoW hall)
          | (go_at_call 35; refine KDA.out.mono ?_; rintro e wx ⟨rfl, hox, hoW, Fa', ka, kb, kc, k1, k2⟩; have f0 := hox.cell d0 HGC.out.1; have f1 := hox.cell d1 HGC.out.1; have f2 := hox.cell d2 HGC.out.1; have f3 := hox.cell d3 HGC.out.1; have KDB := Lib.hid (two_first hoW kb ka kc k1.symm HA.out.2.2.2.2.2 k2 (d := d) (by omega) HX.out.1 HX.out.2 (g := gb) HGC.out.2); unfold D.cells Ptr at KDB; have HK2 := Lib.hid k2; clear hox hoW ka kb kc k1 k2))
        obtain ⟨hoW, Fb', kb, ka, kc, k1, k3⟩ := HFIN.out
        have hth : Three W wy a b c (mostOf n) (roomOf r) (i + 1) (doL (mostOf n) (roomOf r) d L) := ⟨hoW, _, _, _, _, ka, kb, kc.more PJ, k1.symm, HK2.out, k3⟩
        have HTH := Lib.hid hth
        clear hoW kb ka kc k1 k3 hth
        go_wp2
        go_roundg (ds.length - (i + 1))
        case measure => omega
        case rel => exact ⟨i + 1, by go_num, Lib.hid ⟨by omega, _, HTH.out⟩⟩
      · have hj' : ¬ (i : Int) < (es.length : Int) := by omega
        obtain ⟨Fa, Fb, Fc, M, ha, hb, hc, h1, h2', h3'⟩ := hth.all
        have ho1 : Only (fun _ => False) wr (wr.alloc (.cells d.cells.toArray 24)) := (Only.refl _ wr).alloc _
        have HGB := Lib.hid (And.intro (hlow Fa ha.rep.low) (hlow Fb hb.rep.low))
        have HA := Lib.hid (And.intro (ha.frame ho1) (And.intro (hb.frame ho1) (And.intro (hc.frame ho1) (And.intro h1 (And.intro h2' h3')))))
        have HOV := Lib.hid (hth.only.trans ho1)
        have HBX : Hid ((wr.alloc (.cells d.cells.toArray 24)).cell? ⟨wr.heap.size, 0, none⟩ = some (.int .i64 d.op) ∧ (wr.alloc (.cells d.cells.toArray 24)).cell? ⟨wr.heap.size, 1, none⟩ = some (.int .i64 d.id) ∧ (wr.alloc (.cells d.cells.toArray 24)).cell? ⟨wr.heap.size, 2, none⟩ = some (.slice d.ao d.b.length d.cap) ∧ (wr.alloc (.cells d.cells.toArray 24)).cell? ⟨wr.heap.size, 3, none⟩ = some (.int .i64 d.n)) :=
          Lib.hid ⟨cell_of_row _ _ _ _ _ _ hbox, cell_of_row _ _ _ _ _ _ hbox, cell_of_row _ _ _ _ _ _ hbox, cell_of_row _ _ _ _ _ _ hbox⟩
        have PJ : i ≤ i + 1 := by omega
        clear hth hth1 hbox hlow ha hb hc h1 h2' h3' ho1
        unfold D.cells at HA HOV HBX
        go_upto_region 11 with fail
        generalize wr.alloc (.cells #[Value.int .i64 d.op, .int .i64 d.id, .slice d.ao d.b.length d.cap, .int .i64 d.n] 24) = wv at *
        generalize wr.heap.size = gb at *
        have hwd : Only (fun _ => False) wv wv.drew := (Only.refl _ wv).drew
        have KDA := Lib.hid (two_first (HOV.out.trans hwd) (HA.out.1.frame hwd) (HA.out.2.1.frame hwd) (HA.out.2.2.1.frame hwd) HA.out.2.2.2.1 HA.out.2.2.2.2.1 HA.out.2.2.2.2.2 (d := d) (by omega) HX.out.1 HX.out.2 (g := gb) (fun hf => absurd (HGB.out.1 hf) (by simp)))
        unfold D.cells Ptr at KDA
        have d0 : wv.drew.cell? ⟨gb, 0, none⟩ = some (.int .i64 d.op) := HBX.out.1
        have d1 : wv.drew.cell? ⟨gb, 1, none⟩ = some (.int .i64 d.id) := HBX.out.2.1
        have d2 : wv.drew.cell? ⟨gb, 2, none⟩ = some (.slice d.ao d.b.length d.cap) := HBX.out.2.2.1
        have d3 : wv.drew.cell? ⟨gb, 3, none⟩ = some (.int .i64 d.n) := HBX.out.2.2.2
        clear hwd
        go_wp2_with fail
        go_region_held3 (fun w' => w'.cell? ⟨gb, 0, none⟩ = some (.int .i64 d.op) ∧ w'.cell? ⟨gb, 1, none⟩ = some (.int .i64 d.id) ∧ w'.cell? ⟨gb, 2, none⟩ = some (.slice d.ao d.b.length d.cap) ∧ w'.cell? ⟨gb, 3, none⟩ = some (.int .i64 d.n))
          (first | with_reducible exact ⟨d0, d1, d2, d3⟩ | with_reducible exact ⟨f0, f1, f2, f3⟩ | with_reducible exact ⟨g0, g1, g2, g3⟩) (first
          | (go_at_call 35; refine KDB.out.mono ?_; rintro e wy ⟨rfl, hoy, hoW, hall⟩; have g0 := hoy.cell f0 HGB.out.2; have g1 := hoy.cell f1 HGB.out.2; have g2 := hoy.cell f2 HGB.out.2; have g3 := hoy.cell f3 HGB.out.2; have HFIN := Lib.hid (And.intro hoW hall); clear hoy hoW hall)
          | (go_at_call 35; refine KDA.out.mono ?_; rintro e wx ⟨rfl, hox, hoW, Fa', ka, kb, kc, k1, k2⟩; have f0 := hox.cell d0 HGB.out.1; have f1 := hox.cell d1 HGB.out.1; have f2 := hox.cell d2 HGB.out.1; have f3 := hox.cell d3 HGB.out.1; have KDB := Lib.hid (two_first hoW kb ka kc k1.symm HA.out.2.2.2.2.2 k2 (d := d) (by omega) HX.out.1 HX.out.2 (g := gb) HGB.out.2); unfold D.cells Ptr at KDB; have HK2 := Lib.hid k2; clear hox hoW ka kb kc k1 k2))
        obtain ⟨hoW, Fb', kb, ka, kc, k1, k3⟩ := HFIN.out
        have hth : Three W wy a b c (mostOf n) (roomOf r) (i + 1) (doL (mostOf n) (roomOf r) d L) := ⟨hoW, _, _, _, _, ka, kb, kc.more PJ, k1.symm, HK2.out, k3⟩
        have HTH := Lib.hid hth
        clear hoW kb ka kc k1 k3 hth
        go_wp2
        go_roundg (ds.length - (i + 1))
        case measure => omega
        case rel => exact ⟨i + 1, by go_num, Lib.hid ⟨by omega, _, HTH.out⟩⟩
    · have hi' : ¬ (i : Int) < (ds.length : Int) := by omega
      obtain ⟨Fa, Fb, Fc, M, ha, hb, hc, h1, h2', h3'⟩ := hth.all
      have hlen : (L.map (·.key)).length ≤ 64 := by have := ha.rep.bounds; simp; omega
      have KL1 := Lib.hid ha.list
      have HB := Lib.hid hb
      have HL := Lib.hid hlen
      have HO := Lib.hid hth.only
      clear hth ha hb hc h1 h2' h3' hlen
      unfold Ptr at *
      go_wp2_with fail
      refine KL1.out.mono ?_
      rintro e w1 ⟨x1, rfl, hk1, ho1⟩
      have KL2 := Lib.hid (HB.out.frame ho1).list
      have HK1 := Lib.hid hk1
      have HO1 := Lib.hid (HO.out.trans ho1)
      clear hk1 ho1
      unfold Ptr at *
      go_wp2_with fail
      refine KL2.out.mono ?_
      rintro e w2 ⟨x2, rfl, hk2, ho2⟩
      have KE := Lib.hid (eq_same (HK1.out.frame ho2) hk2 HL.out)
      have HO2 := Lib.hid (HO1.out.trans ho2)
      clear hk2 ho2
      go_wp2_with fail
      refine KE.out.mono ?_
      rintro e w3 ⟨rfl, ho3⟩
      have HO3 := Lib.hid (HO2.out.trans ho3)
      clear ho3
      go_wp2_with fail
      refine (HAW.out _).mono ?_
      rintro e w4 ⟨rfl, ho4⟩
      have HO4 := Lib.hid (HO3.out.trans ho4)
      clear ho4
      go_wp2
      go_ret
      exact ⟨rfl, HO4.out⟩
end Go.Proofs.Ytafeiankpckijaa
