/- The walk of StoreLeast. -/
import Derived.Test.YtafeiankpckijaaLL
namespace Go.Proofs.Ytafeiankpckijaa
open Go.RowKit
set_option linter.unusedSimpArgs false
set_option linter.unusedVariables false
attribute [local go_sem ↓] Go.wp_at_zero Go.wp_at_succ
def bldS (ps : Array (Nat × Value)) : Sem Value := Instr.buildSlice 45 1 ps
theorem bldS_eq (ps : Array (Nat × Value)) : Instr.buildSlice 45 1 ps = bldS ps := rfl
theorem bldS_run (w : World) (k : Nat) : (bldS #[(0, Sum_ k)]).run Try.prog w = .ok (.slice (some ⟨w.heap.size, 0, none⟩) 1 1) (w.alloc (.cells (sumC k).toArray 38)) := bs45 w k
attribute [local go_sem ↓ high] bldS_eq
attribute [local go_sem] bldS_run
theorem hN_le : ∀ L : List Chunk, hN L ≤ L.length
  | [] => Nat.le_refl _
  | x :: L => by simp only [hN, List.length_cons]; have := hN_le L; split <;> omega
theorem hB_le : ∀ L : List Chunk, hB L ≤ sB L
  | [] => Nat.le_refl _
  | x :: L => by simp only [hB, sB]; have := hB_le L; split <;> omega
theorem over_not {most room n : Nat} {L : List Chunk} (h1 : L.length < most) (h2 : sB L + n ≤ room) : over most (room : Int) n L = false := by
  unfold over
  rw [Bool.or_eq_false_iff, decide_eq_false_iff_not, decide_eq_false_iff_not]
  omega
theorem trim_not {most room n : Nat} {L : List Chunk} (h : over most (room : Int) n L = false) : trim most (room : Int) n L = L := by
  unfold trim
  cases hl : L.length with
  | zero => rfl
  | succ f => unfold trimF; rw [h]; rfl
theorem full_not {most room n : Nat} {L : List Chunk} (h1 : L.length < most) (h2 : sB L + n ≤ room) : fullL most room n L = false := by
  unfold fullL
  have := hN_le L
  have := hB_le L
  rw [Bool.or_eq_false_iff, decide_eq_false_iff_not, decide_eq_false_iff_not]
  omega
theorem put_least {most room k : Nat} {b : List Int} {L : List Chunk} (h : hasL k L = false) (h1 : L.length < most) (h2 : sB L + b.length ≤ room) : putE most room k b.length L = 0 ∧ putL most room k b L = L ++ [⟨k, b, 0⟩] := by
  have hf := full_not (n := b.length) h1 h2
  exact ⟨putE_free h hf, by unfold putL; rw [h, hf, trim_not (over_not h1 h2)]; rfl⟩
theorem put_len {W w : World} {a most room p k : Nat} {L : List Chunk} {G : Nat → Prop} (hm : Mine2 W w a most room p L G) (hk : k < 65536) (h : hasL k L = false) {ao : Option Addr} {b : List Int} (hd : DataAt W (fun y => y < W.heap.size) ao b) (cap : Nat) (hl : b.length ≤ 1000000) (h1 : L.length < most) (h2 : sB L + b.length ≤ room) :
    Calls Try.prog 17 #[Ptr a, Sum_ k, .slice ao b.length cap] w fun e w' => e = .returned (.int .i64 0) ∧ Mine2 W w' a most room p (L ++ [⟨k, b, 0⟩]) G ∧ Beside G w w' := by
  refine (hm.put hk hd cap hl).mono ?_
  rintro e w' ⟨rfl, h3, h4⟩
  obtain ⟨e1, e2⟩ := put_least (b := b) h h1 h2
  rw [e2] at h3
  exact ⟨by rw [e1], h3, h4⟩
theorem own_beside {w w' : World} {B : Nat} {e : TypeId} {s n : Nat} {v : Value} {xs : List Value} {G : Nat → Prop} (h : w.ownsRow B e s v n xs) (hb : Beside G w w') (hG : ∀ g, v.ownBlock = some g → G g) : w'.ownsRow B e s v n xs := by
  have hlt := h.lt
  obtain ⟨h1, h2 | ⟨g, cap, cur, rfl, hB, hg, hr⟩⟩ := h
  · exact ⟨h1, Or.inl h2⟩
  · exact ⟨h1, Or.inr ⟨g, cap, cur, rfl, hB, (hb.block g (hlt g rfl).2 (fun hn => hn (hG g rfl))).trans hg, hr⟩⟩
theorem own_only {w w' : World} {B : Nat} {e : TypeId} {s n : Nat} {v : Value} {xs : List Value} (h : w.ownsRow B e s v n xs) (ho : Only (fun _ => False) w w') : w'.ownsRow B e s v n xs := own_beside (G := fun _ => True) h (Beside.of ho) (fun _ _ => trivial)
theorem Mine2.sub {W w : World} {a most room p : Nat} {L : List Chunk} {G G' : Nat → Prop} (h : Mine2 W w a most room p L G) (hG : ∀ y, G' y → G y) : Mine2 W w a most room p L G' := by
  obtain ⟨F, h1, h2, h3⟩ := h.rep
  exact ⟨⟨F, h1, h2, fun y hy => h3 y (hG y hy)⟩, fun y hy => h.low y (hG y hy), h.only⟩
theorem only_rows {w w' : World} {r : Option Nat} (h : w.grownBy w' r) : Only (fun y => r = some y) w w' := ⟨h.os, h.tape, h.output, h.size, fun k hk hn => h.block k hk (fun e => hn e.symm)⟩
/-- A row of digests, and the store beside it. -/
structure Row (W w : World) (a most room p : Nat) (L : List Chunk) (B : Nat) (v : Value) (ks : List Nat) : Prop where
  mine : Mine2 W w a most room p L (fun y => v.ownBlock = some y)
  own : w.ownsRow B 38 32 v ks.length (ks.flatMap sumC)
  base : B ≤ w.heap.size
theorem Row.frame {W w w' : World} {a most room p : Nat} {L : List Chunk} {B : Nat} {v : Value} {ks : List Nat} (h : Row W w a most room p L B v ks) (ho : Only (fun _ => False) w w') : Row W w' a most room p L B v ks := ⟨h.mine.frame ho, own_only h.own ho, Nat.le_trans h.base ho.size⟩
theorem Row.beside {W w w' : World} {a most room p q : Nat} {L M : List Chunk} {B : Nat} {v : Value} {ks : List Nat} (h : Row W w a most room p L B v ks) (hm : Mine2 W w' a most room q M (fun y => v.ownBlock = some y)) (hb : Beside (fun y => v.ownBlock = some y) w w') : Row W w' a most room q M B v ks := ⟨hm, own_beside h.own hb (fun g hg => hg), Nat.le_trans h.base (Only.size hb)⟩
theorem Row.keys {W w : World} {a most room p : Nat} {L : List Chunk} {B : Nat} {v : Value} {ks : List Nat} (h : Row W w a most room p L B v ks) (hk : ∀ k ∈ ks, k < 65536) : Keys w v ks := keys_of_owns h.own hk
/-- A list that is taken while one is held. -/
theorem Row.start {W w : World} {a most room p : Nat} {L : List Chunk} (h : Mine W w a most room p L) : Calls Try.prog 24 #[Ptr a] w fun e w' => ∃ v, e = .returned v ∧ Row W w' a most room p L w.heap.size v (L.map (·.key)) ∧ Only (fun _ => False) w w' := by
  refine (Mine2.of h).list.mono ?_
  rintro e w' ⟨v, rfl, r1, r2, r3, r4⟩
  have hlt := r1.lt
  exact ⟨v, rfl, ⟨r4.sub (fun y hy => Or.inr (hlt y hy)), by simpa [List.flatMap_map] using r1, r3.size⟩, r3⟩
/-- And a second list. -/
theorem Row.list {W w : World} {a most room p : Nat} {L : List Chunk} {B : Nat} {v : Value} {ks : List Nat} (h : Row W w a most room p L B v ks) : Calls Try.prog 24 #[Ptr a] w fun e w' => ∃ u, e = .returned u ∧ w'.ownsRow w.heap.size 38 32 u (L.map (·.key)).length ((L.map (·.key)).flatMap sumC) ∧ Keys w' u (L.map (·.key)) ∧ Row W w' a most room p L B v ks ∧ Only (fun _ => False) w w' := by
  refine h.mine.list.mono ?_
  rintro e w' ⟨u, rfl, r1, r2, r3, r4⟩
  exact ⟨u, rfl, by simpa [List.flatMap_map] using r1, r2, h.frame r3, r3⟩
theorem Row.append {W w : World} {a most room p B B2 k : Nat} {L : List Chunk} {v u v' : Value} {ks js : List Nat} {w' : World} (h : Row W w a most room p L B v ks) (hu : w.ownsRow B2 38 32 u js.length (js.flatMap sumC)) (hne : u.ownBlock = none ∨ u.ownBlock ≠ v.ownBlock)
    (hj : js = ks ++ [k]) (hk : ∀ x ∈ js, x < 65536) (hown : w'.ownsRow B 38 32 v' (ks.length + 1) (ks.flatMap sumC ++ sumC k)) (hg : (w.alloc (.cells (sumC k).toArray 38)).grownBy w' v.ownBlock) :
    Mine W w' a most room p L ∧ Keys w' u js ∧ Keys w' v' js := by
  refine ⟨((h.mine.frame ((Only.refl _ w).alloc _)).rows (only_rows hg)).mine, keys_of_owns ((hu.alloc _).kept hg hne) hk, keys_of_owns (B := B) ?_ hk⟩
  subst hj
  simpa [List.flatMap_append] using hown
theorem keys_app {k : Nat} {b : List Int} {L : List Chunk} : (L ++ [(⟨k, b, 0⟩ : Chunk)]).map (fun x => x.key) = L.map (fun x => x.key) ++ [k] := by simp
theorem Row.base_alloc {W w : World} {a most room p : Nat} {L : List Chunk} {B : Nat} {v : Value} {ks : List Nat} (h : Row W w a most room p L B v ks) (o : Obj) : B ≤ (w.alloc o).heap.size := Nat.le_trans h.base ((Only.refl (fun _ => False) w).alloc o).size
theorem keys_app_len {k : Nat} {b : List Int} {L : List Chunk} (h : (L.map (·.key)).length ≤ 63) : ((L ++ [(⟨k, b, 0⟩ : Chunk)]).map (fun x => x.key)).length ≤ 64 := by simp at h ⊢; omega
theorem Mine.key_lt {W w : World} {a most room p : Nat} {L : List Chunk} (h : Mine W w a most room p L) : ∀ x ∈ L.map (·.key), x < 65536 := fun x hx => by
  obtain ⟨y, hy, rfl⟩ := List.mem_map.1 hx; exact h.keys y hy
theorem own_apart {w w' : World} {B n m : Nat} {v u : Value} {xs ys : List Value} (h : w.ownsRow B 38 32 v n xs) (h' : w'.ownsRow w.heap.size 38 32 u m ys) : u.ownBlock = none ∨ u.ownBlock ≠ v.ownBlock := by
  cases hu : u.ownBlock with
  | none => exact Or.inl rfl
  | some g =>
    refine Or.inr fun e => ?_
    have h1 := (h'.lt g hu).1
    have h2 := (h.lt g e.symm).2
    omega
theorem Mine.bytes_app {W w : World} {a most room p k : Nat} {L : List Chunk} {b : List Int} (h : Mine W w a most room p (L ++ [⟨k, b, 0⟩])) : Calls Try.prog 23 #[Ptr a] w fun e w' => e = .returned (.int .i64 ((sB L : Int) + (b.length : Int))) ∧ w' = w := by
  refine h.bytes.mono ?_
  rintro e w' ⟨rfl, rfl⟩
  refine ⟨?_, rfl⟩
  have : (sB (L ++ [⟨k, b, 0⟩]) : Int) = (sB L : Int) + (b.length : Int) := by rw [sB_app]; simp [sB]
  rw [this]
theorem Row.put_least {W w : World} {a most room p k B : Nat} {L : List Chunk} {v : Value} {ks : List Nat} (hm : Row W w a most room p L B v ks) (hk : k < 65536) (h : hasL k L = false) {ao : Option Addr} {b : List Int} (hd : DataAt W (fun y => y < W.heap.size) ao b) (cap : Nat) (hl : b.length ≤ 1000000) (h1 : L.length < most) (h2 : sB L + b.length ≤ room) :
    Calls Try.prog 17 #[Ptr a, Sum_ k, .slice ao b.length cap] w fun e w' => e = .returned (.int .i64 0) ∧ Row W w' a most room p (L ++ [⟨k, b, 0⟩]) B v ks := by
  refine (put_len hm.mine hk h hd cap hl h1 h2).mono ?_
  rintro e w' ⟨rfl, h3, h4⟩
  exact ⟨rfl, hm.beside h3 h4⟩
set_option maxRecDepth 100000 in
set_option maxHeartbeats 8000000 in
theorem least_law (AW : Awake) (W : World) (n r : Int) (lo : Option Addr) (ds : List D) (cap : Nat) (d : D) (hd : Dos W lo ds) (hold : Old W W.heap.size ds) (hl : ds.length ≤ 3000000000000)
    (hdat : DataAt W (fun y => y < W.heap.size) d.ao d.b) :
    Calls Try.prog 11 #[.int .i64 n, .int .i64 r, .slice lo ds.length cap, .agg d.cells.toArray] W (Law W) := by
  have hs := own_start hdat
  have K1 := Lib.hid (made_law (W.alloc (.cells d.cells.toArray 24)) n r lo ds cap (hd.frame hs.only (fun _ _ h => h)) (fun x hx => ((hold x hx).mono (fun y hy => Nat.lt_of_lt_of_le hy hs.only.size)).frame' hs.only) hl)
  have HAW := Lib.hid AW; clear AW
  have HS := Lib.hid hs; clear hs hd hold hdat
  have hb := HS.out.box
  unfold D.cells at *
  go_enter Try.func11, Try.ntmps11
  go_upto_region 1 with fail
  generalize W.alloc (.cells #[Value.int .i64 d.op, .int .i64 d.id, .slice d.ao d.b.length d.cap, .int .i64 d.n] 24) = W1 at *
  generalize W.heap.size = g at *
  go_wp2_with fail
  refine K1.out.mono ?_
  rintro e w1 ⟨v1, ok1, rfl, ho1, hm1⟩
  have HM1 := Lib.hid hm1
  have HO1 := Lib.hid (HS.out.only.trans ho1)
  obtain ⟨d0, d1, d2, d3⟩ := HS.out.box.frame ho1
  clear ho1 hm1 hb
  cases ok1 with
  | false =>
    have KA := Lib.hid (HAW.out w1)
    go_wp2_with fail
    refine KA.out.mono ?_
    rintro e w4 ⟨rfl, ho⟩
    have HO4 := Lib.hid (HO1.out.trans ho); clear ho
    go_wp2
    go_ret
    exact ⟨rfl, HO4.out⟩
  | true =>
  obtain ⟨a, rfl, ma, hcount, -⟩ := HM1.out rfl
  have hm2 := ma.frame ((Only.refl _ w1).alloc (.cells d.cells.toArray 24))
  have KS := Lib.hid (short_any (w1.alloc (.cells d.cells.toArray 24)) (some ⟨w1.heap.size, 0, none⟩) [d] 1 (dos_one (box_new w1 d 24)) (by simp))
  have HM2 := Lib.hid (And.intro hm2 hcount)
  clear ma hm2 HM1 K1 HO1 hcount
  unfold D.cells at KS HM2
  go_wp2_with fail
  refine KS.out.mono ?_
  rintro e w2 ⟨q2, rfl, hw2, hq2⟩
  clear d0 d1 d2 d3
  have HM3 := Lib.hid (show Mine W1 w2 a (mostOf n) (roomOf r) ds.length (runL (mostOf n) (roomOf r) ds []) ∧ ds.length ≤ 300 from by rw [hw2]; exact HM2.out)
  have HQ2 := Lib.hid hq2
  clear hw2 hq2 KS HM2
  have HO2 := Lib.hid (HS.out.only.trans HM3.out.1.only)
  obtain ⟨d0, d1, d2, d3⟩ := HM3.out.1.box HS.out.box
  cases q2 with
  | false =>
    have KA := Lib.hid (HAW.out w2)
    go_wp2_with fail
    refine KA.out.mono ?_
    rintro e w4 ⟨rfl, ho⟩
    have HO4 := Lib.hid (HO2.out.trans ho); clear ho
    go_wp2
    go_ret
    exact ⟨rfl, HO4.out⟩
  | true =>
  have HB : Hid (d.b.length ≤ 65536) := Lib.hid (by have := (HQ2.out rfl).2; simp only [lenD] at this; omega)
  have HK := Lib.hid (keyOf_lt d.id)
  clear HQ2
  generalize runL (mostOf n) (roomOf r) ds [] = L at HM3
  have KL := Lib.hid (Row.start HM3.out.1)
  unfold Ptr at KL
  have hcount := HM3.out.2
  go_wp2_with fail
  refine KL.out.mono ?_
  rintro e w3 ⟨vl, rfl, hrow, ho3⟩
  clear d0 d1 d2 d3 KL HO2
  obtain ⟨d0, d1, d2, d3⟩ := hrow.mine.mine.box HS.out.box
  have KN := Lib.hid hrow.mine.mine.len
  have KB := Lib.hid hrow.mine.mine.bytes
  have HOL := Lib.hid (HS.out.only.trans hrow.mine.only)
  have HBD := Lib.hid hrow.mine.mine.bounds
  have HRW := Lib.hid hrow
  clear hrow ho3 HM3
  unfold Ptr at KN KB
  go_wp2_with fail
  refine KN.out.mono ?_
  rintro e w4 ⟨rfl, rfl⟩
  go_wp2_with fail
  refine KB.out.mono ?_
  rintro e w5 ⟨rfl, rfl⟩
  have hw1 := mod_wrap n 64 (Or.inl rfl)
  have hw2 := mod_wrap r 8192 (Or.inr rfl)
  have e1 : (1 + n % 64 : Int) = (mostOf n : Nat) := by unfold mostOf; omega
  have e2 : (1 + r % 8192 : Int) = (roomOf r : Nat) := by unfold roomOf; omega
  have m1 : 1 ≤ mostOf n ∧ mostOf n ≤ 64 := by unfold mostOf; omega
  have r1 : 1 ≤ roomOf r ∧ roomOf r ≤ 8192 := by unfold roomOf; omega
  clear KN KB hcount
  go_upto_region 7 with fail
  clear hw1 hw2 e1 e2
  have KS := Lib.hid (sum_any d.id w5)
  go_wp2_with fail
  refine KS.out.mono ?_
  rintro e w6 ⟨rfl, ho6⟩
  have HRW6 := Lib.hid (HRW.out.frame ho6)
  have KH := Lib.hid (HRW6.out.mine.has HK.out)
  obtain ⟨d0, d1, d2, d3⟩ := (show BoxAt w5 g d from ⟨d0, d1, d2, d3⟩).frame ho6
  clear ho6 KS HRW
  unfold Ptr at KH
  go_wp2_with fail
  refine KH.out.mono ?_
  rintro e w7 ⟨rfl, ho7⟩
  have HRW7 := Lib.hid (HRW6.out.frame ho7)
  obtain ⟨d0, d1, d2, d3⟩ := (show BoxAt w6 g d from ⟨d0, d1, d2, d3⟩).frame ho7
  have HO7 := Lib.hid (HS.out.only.trans HRW7.out.mine.only)
  have KA := Lib.hid (HAW.out w7)
  have bd := HBD.out
  have bb := HB.out
  have hws : wrap64 ((roomOf r : Int) - (sB L : Int)) = (roomOf r : Int) - (sB L : Int) := by unfold wrap64; omega
  have hwa : wrap64 ((sB L : Int) + (d.b.length : Int)) = (sB L : Int) + (d.b.length : Int) := by unfold wrap64; omega
  have hwb : IntKind.i64.wrap ((sB L : Int) + (d.b.length : Int)) = (sB L : Int) + (d.b.length : Int) := by simp [IntKind.wrap, IntKind.bits, IntKind.signed]; omega
  clear ho7 KH HRW6 HOL
  cases hh : hasL (keyOf d.id) L with
  | true =>
    go_wp2_with fail
    refine KA.out.mono ?_
    rintro e w4 ⟨rfl, ho⟩
    have HO4 := Lib.hid (HO7.out.trans ho); clear ho
    go_wp2
    go_ret
    exact ⟨rfl, HO4.out⟩
  | false =>
  by_cases c1 : (mostOf n : Int) ≤ (L.length : Int)
  · skip
    go_wp2_with fail
    refine KA.out.mono ?_
    rintro e w4 ⟨rfl, ho⟩
    have HO4 := Lib.hid (HO7.out.trans ho); clear ho
    go_wp2
    go_ret
    exact ⟨rfl, HO4.out⟩
  by_cases c2 : (roomOf r : Int) - (sB L : Int) < (d.b.length : Int)
  · skip
    go_wp2_with fail
    refine KA.out.mono ?_
    rintro e w4 ⟨rfl, ho⟩
    have HO4 := Lib.hid (HO7.out.trans ho); clear ho
    go_wp2
    go_ret
    exact ⟨rfl, HO4.out⟩
  have c1' : L.length < mostOf n := by omega
  have c2' : sB L + d.b.length ≤ roomOf r := by omega
  go_upto_region 9 with fail
  clear c1 c2 hws
  have HR8 := Lib.hid (HRW7.out.frame (Only.refl (fun _ => False) w7).drew)
  have KS8 := Lib.hid (sum_any d.id w7.drew)
  have x1 : w7.drew.cell? ⟨g, 1, none⟩ = some (.int .i64 d.id) := d1
  have x2 : w7.drew.cell? ⟨g, 2, none⟩ = some (.slice d.ao d.b.length d.cap) := d2
  have HC := Lib.hid (And.intro c1' (And.intro c2' (show d.b.length ≤ 1000000 by omega)))
  have HH := Lib.hid hh
  have hkl : (L.map (·.key)).length ≤ 63 := by rw [List.length_map]; omega
  have HKL := Lib.hid hkl
  have HKM := Lib.hid (show (L.map (·.key)).length + 1 ≤ maxLen ∧ ((L.map (·.key)).length + 1) * 32 ≤ 140737488355328 from ⟨by unfold maxLen; omega, by omega⟩)
  obtain ⟨i0, q1, q2, q3, q4⟩ := info_parts infoAll38
  have HQ := Lib.hid (And.intro q1 (And.intro q2 (And.intro q3 q4)))
  clear d0 d1 d2 d3 c1' c2' hh KA HRW7 HBD m1 r1 bd bb hkl q1 q2 q3 q4
  go_wp2_with fail
  go_region_held3 (fun w' => w'.cell? ⟨g, 1, none⟩ = some (.int .i64 d.id) ∧ w'.cell? ⟨g, 2, none⟩ = some (.slice d.ao d.b.length d.cap))
    (first | with_reducible exact ⟨x1, x2⟩ | with_reducible exact ⟨y1, y2⟩ | with_reducible exact ⟨z1, z2⟩ | go_keep) (first
    | (rw [if_pos (by rfl)]; go_simp; go_at_call 25; refine KA9.out.mono ?_; rintro e wi ⟨rfl, hoi⟩; obtain ⟨z0, z1, z2, z3⟩ := (HM13.out.frame hoi).box HS.out.box; have HOF := Lib.hid ((HS.out.only.trans HM13.out.only).trans hoi); clear z0 z3 KA9 hoi; dsimp only)
    | (rw [if_pos (by rfl)]; refine wp_append_own _ (.tmp 79) (.tmp 83) 45 rfl w2.heap.size 38 i0 zeroSum 32 32 under45 HQ.out.1 HQ.out.2.1 HQ.out.2.2.1 HQ.out.2.2.2 (by rfl) (by decide) vl _ _ (by rfl) (HR11.out.own.alloc _) ⟨wf.heap.size, 0, none⟩ 1 1 (sumC (keyOf d.id)) (by rfl) (by rw [sumC_len]) (row_cells (heap_alloc_new _ _)) (slotkey_one _) HKM.out.1 HKM.out.2 (HR11.out.base_alloc _) ?_; intro v5 wv5 hown hgrow hnil; have hap := HR11.out.append HU11.out HNE.out keys_app HJK.out hown hgrow; have HM13 := Lib.hid hap.1; have KE9 := Lib.hid (eq_same hap.2.1 hap.2.2 (keys_app_len HKL.out)); obtain ⟨z0, z1, z2, z3⟩ := hap.1.box HS.out.box; clear z0 z3 hown hgrow hnil hap)
    | (go_at_call 23; refine KB9.out.mono ?_; rintro e wh ⟨rfl, rfl⟩)
    | (go_at_call 38; refine KE9.out.mono ?_; rintro e wg ⟨rfl, hog⟩; replace HM13 := Lib.hid (HM13.out.frame hog); have KB9 := Lib.hid HM13.out.bytes_app; have KA9 := Lib.hid (HAW.out wg); unfold Ptr at KB9; obtain ⟨y0, y1, y2, y3⟩ := HM13.out.box HS.out.box; clear y0 y3 KE9 hog)
    | (go_at_call 14; refine KS10.out.mono ?_; rintro e wf ⟨rfl, hof⟩; have HR11 := Lib.hid (HR10.out.frame hof); have HU11 := Lib.hid (own_only HU10.out hof); obtain ⟨z0, z1, z2, z3⟩ := HR11.out.mine.mine.box HS.out.box; clear z0 z3 KS10 hof HR10 HU10)
    | (go_at_call 24; refine KL9.out.mono ?_; rintro e wd ⟨u, rfl, hu1, hu2, hu3, hu4⟩; have HR10 := Lib.hid hu3; have HU10 := Lib.hid hu1; have HNE := Lib.hid (own_apart HR9.out.own hu1); have HJK := Lib.hid hu3.mine.mine.key_lt; have KS10 := Lib.hid (sum_any d.id wd); obtain ⟨y0, y1, y2, y3⟩ := hu3.mine.mine.box HS.out.box; clear y0 y3 KL9 hu1 hu2 hu3 hu4 HR9)
    | (go_at_call 17; refine KP9.out.mono ?_; rintro e wc ⟨rfl, hp9⟩; have HR9 := Lib.hid hp9; have KL9 := Lib.hid hp9.list; obtain ⟨z0, z1, z2, z3⟩ := hp9.mine.mine.box HS.out.box; unfold Ptr at KL9; clear z0 z3 KP9 hp9)
    | (go_at_call 14; refine KS8.out.mono ?_; rintro e wb ⟨rfl, hob⟩; obtain ⟨y0, y1, y2, y3⟩ := (HR8.out.frame hob).mine.mine.box HS.out.box; have KP9 := Lib.hid ((HR8.out.frame hob).put_least HK.out HH.out HS.out.data d.cap HC.out.2.2 HC.out.1 HC.out.2.1); unfold Ptr at KP9; clear y0 y3 KS8 hob HR8))
  go_wp2
  go_ret
  exact ⟨rfl, HOF.out⟩
end Go.Proofs.Ytafeiankpckijaa
