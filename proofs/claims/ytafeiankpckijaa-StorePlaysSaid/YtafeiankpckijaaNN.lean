/- The walk of StoreHolds. -/
import Derived.Test.YtafeiankpckijaaPL
import Derived.Test.YtafeiankpckijaaGG
namespace Go.Proofs.Ytafeiankpckijaa
open Go.RowKit
set_option linter.unusedSimpArgs false
set_option linter.unusedVariables false
attribute [local go_sem ↓] Go.wp_at_zero Go.wp_at_succ
/-- What a law with one call of its own has ahead: its box, and old bytes. -/
structure Own (W W1 : World) (g : Nat) (d : D) : Prop where
  only : Only (fun _ => False) W W1
  box : BoxAt W1 g d
  data : DataAt W1 (fun y => y < W1.heap.size) d.ao d.b
theorem own_start {W : World} {d : D} (h : DataAt W (fun y => y < W.heap.size) d.ao d.b) : Own W (W.alloc (.cells d.cells.toArray 24)) W.heap.size d :=
  have ho : Only (fun _ => False) W (W.alloc (.cells d.cells.toArray 24)) := (Only.refl _ W).alloc _
  ⟨ho, box_new W d 24, (h.mono (fun y hy => Nat.lt_of_lt_of_le hy ho.size)).frame' ho⟩
theorem mod9 (n : Int) : wrap64 ((IntKind.u64.wrap n).tmod 9) = (((n % 18446744073709551616) % 9).toNat : Int) := by
  have h1 : IntKind.u64.wrap n = n % 18446744073709551616 := by simp [IntKind.wrap, IntKind.bits, IntKind.signed]
  rw [h1, Int.tmod_eq_emod_of_nonneg (by omega)]
  unfold wrap64; omega
theorem Mine.box {W1 w : World} {a most room p g : Nat} {L : List Chunk} {d : D} (h : Mine W1 w a most room p L) (hb : BoxAt W1 g d) : BoxAt w g d := hb.frame h.only
/-- A digest is there, and held so many times. -/
def Held (k : Nat) (L : List Chunk) (j : Nat) : Prop := hasL k L = true ∧ pinsOf k L = j
theorem Held.pin {k j : Nat} {L : List Chunk} (h : Held k L j) : Held k (pinL (· + 1) k L) (j + 1) := ⟨by rw [has_pinL]; exact h.1, by rw [pins_pinL h.1, h.2]⟩
theorem Held.unpin {k j : Nat} {L : List Chunk} (h : Held k L (j + 1)) : Held k (pinL (· - 1) k L) j := ⟨by rw [has_pinL]; exact h.1, by rw [pins_pinL h.1, h.2]; rfl⟩
theorem Mine.held_pin {W1 w : World} {a most room p k j : Nat} {L : List Chunk} (h : Mine W1 w a most room p L) (hk : k < 65536) (hp : p < 1000000000) (hh : Held k L j) :
    Calls Try.prog 18 #[Ptr a, Sum_ k] w fun e w' => e = .returned (.int .i64 0) ∧ ∃ L', Mine W1 w' a most room (p + 1) L' ∧ Held k L' (j + 1) := by
  refine (h.pin hk hp).mono ?_
  rintro e w' ⟨rfl, hm⟩; exact ⟨by rw [getE_has hh.1], _, hm, hh.pin⟩
theorem Mine.held_unpin {W1 w : World} {a most room p k j : Nat} {L : List Chunk} (h : Mine W1 w a most room p L) (hk : k < 65536) (hp : p < 1000000000) (hh : Held k L (j + 1)) :
    Calls Try.prog 19 #[Ptr a, Sum_ k] w fun e w' => e = .returned (.int .i64 0) ∧ ∃ L', Mine W1 w' a most room p L' ∧ Held k L' j := by
  refine (h.unpin hk hp).mono ?_
  rintro e w' ⟨rfl, hm⟩; exact ⟨by rw [unpinE_yes hh.1 hh.2], _, hm, hh.unpin⟩
theorem Mine.held_zero {W1 w : World} {a most room p k : Nat} {L : List Chunk} (h : Mine W1 w a most room p L) (hk : k < 65536) (hp : p < 1000000000) (hh : Held k L 0) :
    Calls Try.prog 19 #[Ptr a, Sum_ k] w fun e w' => e = .returned (.int .i64 91) ∧ ∃ L', Mine W1 w' a most room p L' ∧ hasL k L' = true := by
  refine (h.unpin hk hp).mono ?_
  rintro e w' ⟨rfl, hm⟩; exact ⟨by rw [unpinE_zero hh.1 hh.2], _, hm, by rw [has_pinL]; exact hh.1⟩
theorem Mine.unpin_gone {W1 w : World} {a most room p k : Nat} {L : List Chunk} (h : Mine W1 w a most room p L) (hk : k < 65536) (hp : p < 1000000000) (hh : hasL k L = false) :
    Calls Try.prog 19 #[Ptr a, Sum_ k] w fun e w' => e = .returned (.int .i64 90) ∧ ∃ L', Mine W1 w' a most room p L' ∧ hasL k L' = false := by
  refine (h.unpin hk hp).mono ?_
  rintro e w' ⟨rfl, hm⟩; exact ⟨by rw [unpinE_not hh], _, hm, by rw [has_pinL]; exact hh⟩
theorem Mine.pin_gone {W1 w : World} {a most room p k : Nat} {L : List Chunk} (h : Mine W1 w a most room p L) (hk : k < 65536) (hp : p < 1000000000) (hh : hasL k L = false) :
    Calls Try.prog 18 #[Ptr a, Sum_ k] w fun e w' => e = .returned (.int .i64 90) ∧ Only (fun _ => False) W1 w' := by
  refine (h.pin hk hp).mono ?_
  rintro e w' ⟨rfl, hm⟩; exact ⟨by rw [getE_not hh], hm.only⟩
theorem Mine.evict_held {W1 w : World} {a most room p k : Nat} {L : List Chunk} (h : Mine W1 w a most room p L) (hk : k < 65536) (hh : hasL k L = true) :
    Calls Try.prog 20 #[Ptr a, Sum_ k] w fun e w' => e = .returned (.int .i64 0) ∧ ∃ L', Mine W1 w' a most room p L' ∧ hasL k L' = false := by
  refine (h.evict hk).mono ?_
  rintro e w' ⟨rfl, hm⟩; exact ⟨by rw [getE_has hh], _, hm, has_oth⟩
theorem Mine.evict_any {W1 w : World} {a most room p k : Nat} {L : List Chunk} (h : Mine W1 w a most room p L) (hk : k < 65536) :
    Calls Try.prog 20 #[Ptr a, Sum_ k] w fun e w' => (∃ x, e = .returned (.int .i64 x)) ∧ ∃ L', Mine W1 w' a most room p L' ∧ hasL k L' = false := by
  refine (h.evict hk).mono ?_
  rintro e w' ⟨rfl, hm⟩; exact ⟨⟨_, rfl⟩, _, hm, has_oth⟩
/-- What a put of a digest that is not there does. -/
def PutNew (W1 : World) (a most room p k : Nat) (b : List Int) (full : Bool) (e : Ending) (w' : World) : Prop :=
  e = .returned (.int .i64 (if full then 7 else 0)) ∧ (full = false → ∃ L, Mine W1 w' a most room p L ∧ Held k L 0 ∧ dataOf k L = b) ∧ Only (fun _ => False) W1 w'
theorem Mine.put_new {W1 w : World} {a most room p k : Nat} {L : List Chunk} (h : Mine W1 w a most room p L) (hk : k < 65536) (hh : hasL k L = false) {ao : Option Addr} {b : List Int} (hd : DataAt W1 (fun y => y < W1.heap.size) ao b) (cap : Nat) (hl : b.length ≤ 1000000) :
    Calls Try.prog 17 #[Ptr a, Sum_ k, .slice ao b.length cap] w (PutNew W1 a most room p k b (fullL most room b.length L)) := by
  refine (h.put hk hd cap hl).mono ?_
  rintro e w' ⟨rfl, hm⟩
  refine ⟨by cases hf : fullL most room b.length L; rw [putE_free hh hf]; rfl; rw [putE_full hh hf]; rfl, fun hf => ⟨_, hm, ?_⟩, hm.only⟩
  obtain ⟨h1, h2, h3⟩ := Go.Proofs.Ytafeiankpckijaa.put_new (most := most) (room := room) (b := b) hh hf
  exact ⟨⟨h1, h2⟩, h3⟩
set_option maxRecDepth 100000 in
set_option maxHeartbeats 8000000 in
theorem holds_law (AW : Awake) (W : World) (n r : Int) (lo : Option Addr) (ds : List D) (cap : Nat) (d : D) (m : Int) (hd : Dos W lo ds) (hold : Old W W.heap.size ds) (hl : ds.length ≤ 3000000000000)
    (hdat : DataAt W (fun y => y < W.heap.size) d.ao d.b) :
    Calls Try.prog 6 #[.int .i64 n, .int .i64 r, .slice lo ds.length cap, .agg d.cells.toArray, .int .i64 m] W (Law W) := by
  have hs := own_start hdat
  have K1 := Lib.hid (made_law (W.alloc (.cells d.cells.toArray 24)) n r lo ds cap (hd.frame hs.only (fun _ _ h => h)) (fun x hx => ((hold x hx).mono (fun y hy => Nat.lt_of_lt_of_le hy hs.only.size)).frame' hs.only) hl)
  have HAW := Lib.hid AW; clear AW
  have HS := Lib.hid hs; clear hs hd hold hdat
  have hb := HS.out.box
  unfold D.cells at *
  go_enter Try.func6, Try.ntmps6
  go_upto_region 1 with fail
  generalize W.alloc (.cells #[Value.int .i64 d.op, .int .i64 d.id, .slice d.ao d.b.length d.cap, .int .i64 d.n] 24) = W1 at *
  generalize W.heap.size = g at *
  go_wp2_with fail
  refine K1.out.mono ?_
  rintro e w1 ⟨v1, ok1, rfl, ho1, hm1⟩
  have HM1 := Lib.hid hm1
  have HO1 := Lib.hid (HS.out.only.trans ho1)
  obtain ⟨d0, d1, d2, d3⟩ := HS.out.box.frame ho1
  clear ho1 hm1 hb
  cases ok1 with
  | false =>
    have KA := Lib.hid (HAW.out w1)
    go_wp2_with fail
    refine KA.out.mono ?_
    rintro e w4 ⟨rfl, ho⟩
    have HO4 := Lib.hid (HO1.out.trans ho); clear ho
    go_wp2
    go_ret
    exact ⟨rfl, HO4.out⟩
  | true =>
  obtain ⟨a, rfl, ma, hcount, -⟩ := HM1.out rfl
  have hm2 := ma.frame ((Only.refl _ w1).alloc (.cells d.cells.toArray 24))
  have KS := Lib.hid (short_any (w1.alloc (.cells d.cells.toArray 24)) (some ⟨w1.heap.size, 0, none⟩) [d] 1 (dos_one (box_new w1 d 24)) (by simp))
  have HM2 := Lib.hid (And.intro hm2 hcount)
  clear ma hm2 HM1 K1 HO1 hcount
  unfold D.cells at KS HM2
  go_wp2_with fail
  refine KS.out.mono ?_
  rintro e w2 ⟨q2, rfl, hw2, hq2⟩
  clear d0 d1 d2 d3
  have HM3 := Lib.hid (show Mine W1 w2 a (mostOf n) (roomOf r) ds.length (runL (mostOf n) (roomOf r) ds []) ∧ ds.length ≤ 300 from by rw [hw2]; exact HM2.out)
  have HQ2 := Lib.hid hq2
  clear hw2 hq2 KS HM2
  have HO2 := Lib.hid (HS.out.only.trans HM3.out.1.only)
  obtain ⟨d0, d1, d2, d3⟩ := HM3.out.1.box HS.out.box
  cases q2 with
  | false =>
    have KA := Lib.hid (HAW.out w2)
    go_wp2_with fail
    refine KA.out.mono ?_
    rintro e w4 ⟨rfl, ho⟩
    have HO4 := Lib.hid (HO2.out.trans ho); clear ho
    go_wp2
    go_ret
    exact ⟨rfl, HO4.out⟩
  | true =>
  have HB : Hid (d.b.length ≤ 1000000) := Lib.hid (by have := (HQ2.out rfl).2; simp only [lenD] at this; omega)
  have HK := Lib.hid (keyOf_lt d.id)
  clear HQ2 HO2
  have KS3 := Lib.hid (sum_any d.id w2)
  go_wp2_with fail
  refine KS3.out.mono ?_
  rintro e w3 ⟨rfl, ho3⟩
  have KE := Lib.hid ((HM3.out.1.frame ho3).evict_any HK.out)
  clear ho3 KS3
  go_wp2_with fail
  refine KE.out.mono ?_
  rintro e w4 ⟨⟨x4, rfl⟩, L4, hm4, hh4⟩
  clear d0 d1 d2 d3
  obtain ⟨d0, d1, d2, d3⟩ := hm4.box HS.out.box
  have HM4 := Lib.hid (And.intro hm4 hh4)
  have hcount := HM3.out.2
  clear KE hm4 hh4 HM3
  go_upto_region 5 with fail
  have KS5 := Lib.hid (sum_any d.id w4.drew)
  have e1 : w4.drew.cell? ⟨g, 1, none⟩ = some (.int .i64 d.id) := d1
  have e2 : w4.drew.cell? ⟨g, 2, none⟩ = some (.slice d.ao d.b.length d.cap) := d2
  have HD5 := Lib.hid ((Only.refl (fun _ => False) w4).drew)
  cases hfull : fullL (mostOf n) (roomOf r) d.b.length L4 with
  | true =>
    clear d0 d1 d2 d3
    go_wp2_with fail
    go_region_held3 (fun w' => w'.cell? ⟨g, 1, none⟩ = some (.int .i64 d.id) ∧ w'.cell? ⟨g, 2, none⟩ = some (.slice d.ao d.b.length d.cap))
      (first | with_reducible exact ⟨e1, e2⟩ | with_reducible exact ⟨f1, f2⟩ | with_reducible exact ⟨g1, g2⟩) (first
      | (go_at_call 17; refine KP.out.mono ?_; rintro e w6 ⟨rfl, -, ho6⟩; have HO6 := Lib.hid (HS.out.only.trans ho6); obtain ⟨g0, g1, g2, g3⟩ := HS.out.box.frame ho6; clear g0 g3 ho6 KP)
      | (go_at_call 14; refine KS5.out.mono ?_; rintro e w5 ⟨rfl, ho5⟩; have f1 := ho5.cell e1 (fun h => h); have f2 := ho5.cell e2 (fun h => h); have KP := Lib.hid ((HM4.out.1.frame (HD5.out.trans ho5)).put_new HK.out HM4.out.2 HS.out.data d.cap HB.out); rw [hfull] at KP; clear KS5 ho5))
    have KA := Lib.hid (HAW.out w6)
    go_wp2_with fail
    refine KA.out.mono ?_
    rintro e w4 ⟨rfl, ho⟩
    have HO4 := Lib.hid (HO6.out.trans ho); clear ho
    go_wp2
    go_ret
    exact ⟨rfl, HO4.out⟩
  | false =>
    clear d0 d1 d2 d3
    go_wp2_with fail
    go_region_held3 (fun w' => w'.cell? ⟨g, 1, none⟩ = some (.int .i64 d.id) ∧ w'.cell? ⟨g, 2, none⟩ = some (.slice d.ao d.b.length d.cap))
      (first | with_reducible exact ⟨e1, e2⟩ | with_reducible exact ⟨f1, f2⟩ | with_reducible exact ⟨g1, g2⟩) (first
      | (go_at_call 17; refine KP.out.mono ?_; rintro e w6 ⟨rfl, h6, ho6⟩; have HP6 := Lib.hid (h6 rfl); obtain ⟨g0, g1, g2, g3⟩ := HS.out.box.frame ho6; clear g0 g3 h6 ho6 KP)
      | (go_at_call 14; refine KS5.out.mono ?_; rintro e w5 ⟨rfl, ho5⟩; have f1 := ho5.cell e1 (fun h => h); have f2 := ho5.cell e2 (fun h => h); have KP := Lib.hid ((HM4.out.1.frame (HD5.out.trans ho5)).put_new HK.out HM4.out.2 HS.out.data d.cap HB.out); rw [hfull] at KP; clear KS5 ho5))
    obtain ⟨L6, hm6, hh6, -⟩ := HP6.out
    have HM6 := Lib.hid (And.intro hm6 hh6)
    have hw9 := mod9 m
    obtain ⟨nn, hnn, hnl⟩ : ∃ nn : Nat, nn = ((m % 18446744073709551616) % 9).toNat ∧ nn ≤ 8 := ⟨_, rfl, by omega⟩
    rw [← hnn] at hw9
    clear hnn hm6 hh6 HP6 HM4 e1 e2 f1 f2 g1 g2 HD5 hfull
    have PN := Lib.hid (And.intro hnl hcount)
    clear hnl hcount
    go_wp2_with fail
    (try rw [hw9])
    clear hw9
    go_loopg [48] nn (fun gg v wl => ∃ i : Nat, v = .int .i64 i ∧ Hid (i + gg = nn ∧ ∃ L, Mine W1 wl a (mostOf n) (roomOf r) (ds.length + i) L ∧ Held (keyOf d.id) L i))
    case atStart => exact ⟨0, rfl, Lib.hid ⟨by omega, L6, HM6.out⟩⟩
    case round =>
      obtain ⟨i, rfl, hh⟩ := hrel
      obtain ⟨hig, L, hmL, hhL⟩ := hh.out
      have hpn := PN.out
      obtain ⟨d0, d1, d2, d3⟩ := hmL.box HS.out.box
      clear hh HM6
      by_cases hi : i < nn
      · have hi' : (i : Int) < (nn : Int) := by omega
        have KP := Lib.hid (fun (w' : World) (ho : Only (fun _ => False) wr w') => (hmL.frame ho).held_pin HK.out (by omega) hhL)
        clear hmL hhL
        have KS7 := Lib.hid (sum_any d.id wr)
        go_wp2_with fail
        refine KS7.out.mono ?_
        rintro e w7 ⟨rfl, ho7⟩
        go_wp2_with fail
        refine (KP.out _ ho7).mono ?_
        rintro e w8 ⟨rfl, L8, hm8, hh8⟩
        have HM8 := Lib.hid (And.intro hm8 hh8)
        clear d0 d1 d2 d3 hm8 hh8 KP KS7 ho7
        go_wp2
        go_roundg (nn - (i + 1))
        case measure => omega
        case rel => exact ⟨i + 1, by go_num, Lib.hid ⟨by omega, L8, HM8.out⟩⟩
      · have hi' : ¬ (i : Int) < (nn : Int) := by omega
        have hin : i = nn := by omega
        subst hin
        have HM9 := Lib.hid (And.intro hmL hhL)
        clear hmL hhL d0 d1 d2 d3
        go_wp2_with fail
        go_loopg [58] i (fun gg v wl => ∃ j : Nat, v = .int .i64 j ∧ Hid (j + gg = i ∧ ∃ L, Mine W1 wl a (mostOf n) (roomOf r) (ds.length + i) L ∧ Held (keyOf d.id) L gg))
        case atStart => exact ⟨0, rfl, Lib.hid ⟨by omega, L, HM9.out⟩⟩
        case round =>
          obtain ⟨j, rfl, hh⟩ := hrel
          obtain ⟨hjg, M, hmM, hhM⟩ := hh.out
          obtain ⟨d0, d1, d2, d3⟩ := hmM.box HS.out.box
          clear hh HM9
          by_cases hj : j < i
          · have hj' : (j : Int) < (i : Int) := by omega
            obtain ⟨q, hq⟩ : ∃ q, gk = q + 1 := ⟨gk - 1, by omega⟩
            subst hq
            have KP := Lib.hid (fun (w' : World) (ho : Only (fun _ => False) wr w') => (hmM.frame ho).held_unpin HK.out (by omega) hhM)
            clear hmM hhM
            have KS7 := Lib.hid (sum_any d.id wr)
            go_wp2_with fail
            refine KS7.out.mono ?_
            rintro e w7 ⟨rfl, ho7⟩
            go_wp2_with fail
            refine (KP.out _ ho7).mono ?_
            rintro e w8 ⟨rfl, L8, hm8, hh8⟩
            have HM8 := Lib.hid (And.intro hm8 hh8)
            clear d0 d1 d2 d3 hm8 hh8 KP KS7 ho7
            go_wp2
            go_roundg q
            case measure => omega
            case rel => exact ⟨j + 1, by go_num, Lib.hid ⟨by omega, L8, HM8.out⟩⟩
          · have hj' : ¬ (j : Int) < (i : Int) := by omega
            obtain rfl : gk = 0 := by omega
            have KP := Lib.hid (fun (w' : World) (ho : Only (fun _ => False) wr w') => (hmM.frame ho).held_zero HK.out (by omega) hhM)
            clear hmM hhM
            have KS7 := Lib.hid (sum_any d.id wr)
            go_wp2_with fail
            refine KS7.out.mono ?_
            rintro e w7 ⟨rfl, ho7⟩
            go_wp2_with fail
            refine (KP.out _ ho7).mono ?_
            rintro e w8 ⟨rfl, L8, hm8, hh8⟩
            clear d0 d1 d2 d3 KP KS7 ho7
            obtain ⟨d0, d1, d2, d3⟩ := hm8.box HS.out.box
            have KP := Lib.hid (fun (w' : World) (ho : Only (fun _ => False) w8 w') => (hm8.frame ho).evict_held HK.out hh8)
            clear hm8 hh8
            have KS7 := Lib.hid (sum_any d.id w8)
            go_wp2_with fail
            refine KS7.out.mono ?_
            rintro e w9 ⟨rfl, ho7⟩
            go_wp2_with fail
            refine (KP.out _ ho7).mono ?_
            rintro e w10 ⟨rfl, L8, hm8, hh8⟩
            clear d0 d1 d2 d3 KP KS7 ho7
            obtain ⟨d0, d1, d2, d3⟩ := hm8.box HS.out.box
            have KP := Lib.hid (fun (w' : World) (ho : Only (fun _ => False) w10 w') => (hm8.frame ho).unpin_gone HK.out (by omega) hh8)
            clear hm8 hh8
            have KS7 := Lib.hid (sum_any d.id w10)
            go_wp2_with fail
            refine KS7.out.mono ?_
            rintro e w11 ⟨rfl, ho7⟩
            go_wp2_with fail
            refine (KP.out _ ho7).mono ?_
            rintro e w12 ⟨rfl, L8, hm8, hh8⟩
            clear d0 d1 d2 d3 KP KS7 ho7
            obtain ⟨d0, d1, d2, d3⟩ := hm8.box HS.out.box
            have KP := Lib.hid (fun (w' : World) (ho : Only (fun _ => False) w12 w') => (hm8.frame ho).pin_gone HK.out (by omega) hh8)
            clear hm8 hh8
            have KS7 := Lib.hid (sum_any d.id w12)
            go_wp2_with fail
            refine KS7.out.mono ?_
            rintro e w13 ⟨rfl, ho7⟩
            go_wp2_with fail
            refine (KP.out _ ho7).mono ?_
            rintro e w14 ⟨rfl, ho8⟩
            have HO := Lib.hid (HS.out.only.trans ho8)
            clear d0 d1 d2 d3 KP KS7 ho7 ho8
            go_wp2_with fail
            refine (HAW.out _).mono ?_
            rintro e w15 ⟨rfl, ho4⟩
            have HO4 := Lib.hid (HO.out.trans ho4)
            clear ho4
            go_wp2
            go_ret
            exact ⟨rfl, HO4.out⟩
end Go.Proofs.Ytafeiankpckijaa
