/- The walk of StoreKept. -/
import Derived.Test.YtafeiankpckijaaKP
namespace Go.Proofs.Ytafeiankpckijaa
open Go.RowKit
set_option linter.unusedSimpArgs false
set_option linter.unusedVariables false
attribute [local go_sem ↓] Go.wp_at_zero Go.wp_at_succ
theorem under48 : Try.prog.underlying 48 = some (.slice 24) := by kernel_rfl
def zeroDo : Value := .agg #[.int .i64 0, .int .i64 0, .slice none 0 0, .int .i64 0]
theorem infoAll24 : (Try.prog.info? 24).map (fun i => (i.zero, i.size, i.bytes)) = some (some zeroDo, 4, 48) := by kernel_rfl
/-- A row of calls in memory, as cells. -/
def doCells (ds : List D) : List Value := ds.flatMap D.cells
theorem doCells_len : ∀ ds : List D, (doCells ds).length = ds.length * 4
  | [] => rfl
  | d :: ds => by
    have := doCells_len ds
    unfold doCells at this ⊢
    rw [List.flatMap_cons, List.length_append, this]; simp only [D.cells, List.length_cons, List.length_nil]; omega
theorem doCells_get {ds : List D} {i j : Nat} {d : D} (hi : ds[i]? = some d) (hj : j < 4) : (doCells ds)[i * 4 + j]? = d.cells[j]? := by
  have h := flat_get 4 D.cells ds i j (fun _ _ => rfl) hj
  rw [hi] at h
  exact h
theorem dos_of_own {w : World} {B n : Nat} {v : Value} {ds : List D} (h : w.ownsRow B 24 4 v n (doCells ds)) (hn : n = ds.length) (hp : 0 < n) : ∃ g cap, v = .slice (some ⟨g, 0, none⟩) ds.length cap ∧ Dos w (some ⟨g, 0, none⟩) ds := by
  obtain ⟨h1, h2 | ⟨g, cap, cur, rfl, hB, hg, s1, s2, s3, s4⟩⟩ := h
  · omega
  subst hn
  refine ⟨g, cap, rfl, fun i d hi => ⟨g, 0, rfl, ?_⟩⟩
  have hil := (List.getElem?_eq_some_iff.1 hi).1
  have hc : ∀ j, j < 4 → w.cell? ⟨g, 0 + i * 4 + j, none⟩ = d.cells[j]? := fun j hj => by
    have e := doCells_get hi hj
    rw [← s4, List.getElem?_take_of_lt (by omega)] at e
    rw [cell_of_row _ _ _ _ _ _ hg, ← e]; simp
  exact ⟨hc 0 (by omega), hc 1 (by omega), hc 2 (by omega), hc 3 (by omega)⟩
theorem dos_cells {w : World} {lo : Option Addr} {ds : List D} (h : Dos w lo ds) {ad : Addr} (hl : lo = some ad) : ∀ j u, (doCells ds)[j]? = some u → w.cell? (ad.add j) = some u := fun j u hj => by
  have hjl := (List.getElem?_eq_some_iff.1 hj).1
  rw [doCells_len] at hjl
  have hi : j / 4 < ds.length := by omega
  obtain ⟨sb, so, e, h1, h2, h3, h4⟩ := h (j / 4) ds[j / 4] (List.getElem?_eq_getElem hi)
  rw [hl] at e
  obtain rfl : ad = ⟨sb, so, none⟩ := by simpa using e
  have ha : (⟨sb, so, none⟩ : Addr).add j = ⟨sb, so + j, none⟩ := by unfold Addr.add; split <;> simp_all
  rw [ha, ← hj]
  have e2 := doCells_get (List.getElem?_eq_getElem hi) (show j % 4 < 4 by omega)
  rw [show j / 4 * 4 + j % 4 = j by omega] at e2
  rw [e2]
  have hm : j % 4 = 0 ∨ j % 4 = 1 ∨ j % 4 = 2 ∨ j % 4 = 3 := by omega
  rcases hm with hm | hm | hm | hm <;> rw [hm]
  · rw [show so + j = so + j / 4 * 4 by omega]; exact h1
  · rw [show so + j = so + j / 4 * 4 + 1 by omega]; exact h2
  · rw [show so + j = so + j / 4 * 4 + 2 by omega]; exact h3
  · rw [show so + j = so + j / 4 * 4 + 3 by omega]; exact h4
theorem doCells_one {ds : List D} : ∀ u ∈ doCells ds, u.oneCell' = true := by
  intro u hu
  obtain ⟨d, -, hd⟩ := List.mem_flatMap.1 hu
  simp only [D.cells, List.mem_cons, List.not_mem_nil, or_false] at hd
  rcases hd with rfl | rfl | rfl | rfl <;> rfl
theorem wpList_append_run {P : Program} {ops : Array Oper} {rest : List Oper} {o : Oper} {a : Act} {w : World} {Q : Exit → Act → World → Prop} (hgd : o.guard = none) (s x : Operand) (t ty : TypeId)
    (ho : o.op = .call { callee := .builtin .append, args := #[s, x], argTypes := #[t, t] }) (hty : o.type = ty) (v u : Value) (hs : a.eval s = v) (hx : a.eval x = u) (v' : Value) (w' : World)
    (hr : (Builtin.append_ #[t, t] ty #[v, u]).run P w = .ok v' w') (h : wpList P ops Q rest (a.put o.dst v') w') : wpList P ops Q (o :: rest) a w := by
  subst hty
  refine wpList_plain hgd fun _ hK => ?_
  unfold Oper.wp execOp
  simp only [ho, resolve, invoke, builtin, Sem.run_bind, Sem.run_pure, Result.andThen_ok, List.map_toArray, List.map_cons, List.map_nil, hs, hx, hr]
  exact hK _ _ h
theorem wpList_append_wanted {P : Program} {ops : Array Oper} {rest : List Oper} {o : Oper} {a : Act} {w : World} {Q : Exit → Act → World → Prop} (hgd : Region.wanted o (yielded ops a.tmps) = true) (s x : Operand) (t ty : TypeId)
    (ho : o.op = .call { callee := .builtin .append, args := #[s, x], argTypes := #[t, t] }) (hty : o.type = ty) (v u : Value) (hs : a.eval s = v) (hx : a.eval x = u) (v' : Value) (w' : World)
    (hr : (Builtin.append_ #[t, t] ty #[v, u]).run P w = .ok v' w') (h : wpList P ops Q rest (a.put o.dst v') w') : wpList P ops Q (o :: rest) a w := by
  subst hty
  refine wpList_step fun _ hK => ?_
  rw [if_pos hgd]
  unfold Oper.wp execOp
  simp only [ho, resolve, invoke, builtin, Sem.run_bind, Sem.run_pure, Result.andThen_ok, List.map_toArray, List.map_cons, List.map_nil, hs, hx, hr]
  exact hK _ _ h
theorem gate_app (t : TypeId) {P : Program} {ops : Array Oper} {Q : Exit → Act → World → Prop} {o : Oper} {rest : List Oper} {a : Act} {W : World} {s x : Operand} (_ : o.op = .call { callee := .builtin .append, args := #[s, x], argTypes := #[t, t] }) (h : wpList P ops Q (o :: rest) a W) : wpList P ops Q (o :: rest) a W := h
theorem sum_agg (n : Int) (w : World) : Calls Try.prog 14 #[.int .i64 n] w fun e w' => e = .returned (.agg (sumC (keyOf n)).toArray) ∧ Only (fun _ => False) w w' := sum_any n w
theorem more_app (w : World) (d : D) {lo : Option Addr} {es : List D} {cap : Nat} (hes : Dos w lo es) (hb : es.length * 48 ≤ 140737488351232) (hn : lo = none → cap = 0) :
    ∃ g c w', (Builtin.append_ #[48, 48] 48 #[.slice (some ⟨w.heap.size, 0, none⟩) 1 1, .slice lo es.length cap]).run Try.prog (w.alloc (.cells d.cells.toArray 24)) = .ok (.slice (some ⟨g, 0, none⟩) (d :: es).length c) w' ∧ Dos w' (some ⟨g, 0, none⟩) (d :: es) ∧ Only (fun _ => False) w w' := by
  obtain ⟨i0, q1, q2, q3, q4⟩ := info_parts infoAll24
  have ho : Only (fun _ => False) w (w.alloc (.cells d.cells.toArray 24)) := (Only.refl _ w).alloc _
  have hown : (w.alloc (.cells d.cells.toArray 24)).ownsRow w.heap.size 24 4 (.slice (some ⟨w.heap.size, 0, none⟩) 1 1) 1 d.cells :=
    ⟨rfl, Or.inr ⟨w.heap.size, 1, d.cells.toArray, rfl, Nat.le_refl _, heap_alloc_new _ _, Nat.le_refl _, by unfold maxLen; omega, rfl, by simp [D.cells]⟩⟩
  cases lo with
  | none =>
    have hl : es = [] := by
      cases es with
      | nil => rfl
      | cons e es => obtain ⟨sb, so, h, _⟩ := hes 0 e rfl; cases h
    subst hl
    rw [hn rfl]
    exact ⟨w.heap.size, 1, _, run_append_owned_none (P := Try.prog) _ w.heap.size 48 48 24 i0 4 under48 q1 _ 1 d.cells hown, dos_one (box_new w d 24), ho⟩
  | some ad =>
    obtain ⟨v', w', hr, h2, h3, h4⟩ := run_append_own (P := Try.prog) (w.alloc (.cells d.cells.toArray 24)) w.heap.size 48 48 24 i0 zeroDo 4 48 under48 q1 q2 q3 q4 (by rfl) (by omega) _ 1 d.cells hown ad es.length cap (doCells es) (doCells_len es)
      (dos_cells (hes.frame ho (fun _ _ h => h)) rfl) doCells_one (by unfold maxLen; omega) (by omega) (by simp)
    have e : d.cells ++ doCells es = doCells (d :: es) := rfl
    rw [e] at h2
    obtain ⟨g, c, rfl, h5⟩ := dos_of_own h2 (by rw [List.length_cons]; omega) (by omega)
    exact ⟨g, c, w', hr, h5, Only.grown ho h3 (Or.inr (Nat.le_refl _))⟩
set_option maxRecDepth 100000 in
set_option maxHeartbeats 8000000 in
theorem kept_law (AW : Awake) (W : World) (n r : Int) (lo : Option Addr) (ds : List D) (cap : Nat) (d : D) (lo2 : Option Addr) (es : List D) (cap2 : Nat) (hd : Dos W lo ds) (hold : Old W W.heap.size ds) (hl : ds.length ≤ 3000000000000)
    (hd2 : Dos W lo2 es) (hold2 : Old W W.heap.size es) (hl2 : es.length * 48 ≤ 140737488351232) (hn2 : lo2 = none → cap2 = 0) (hdat : DataAt W (fun y => y < W.heap.size) d.ao d.b) :
    Calls Try.prog 8 #[.int .i64 n, .int .i64 r, .slice lo ds.length cap, .slice lo2 es.length cap2, .agg d.cells.toArray] W (Law W) := by
  have hs := own_start hdat
  have K1 := Lib.hid (made_law (W.alloc (.cells d.cells.toArray 24)) n r lo ds cap (hd.frame hs.only (fun _ _ h => h)) (fun x hx => ((hold x hx).mono (fun y hy => Nat.lt_of_lt_of_le hy hs.only.size)).frame' hs.only) hl)
  have HAW := Lib.hid AW; clear AW
  have HE := Lib.hid (And.intro hd2 (show ∀ x ∈ es, DataAt (W.alloc (.cells d.cells.toArray 24)) (fun y => y < (W.alloc (.cells d.cells.toArray 24)).heap.size) x.ao x.b from fun x hx => ((hold2 x hx).mono (fun y hy => Nat.lt_of_lt_of_le hy hs.only.size)).frame' hs.only))
  have HS := Lib.hid hs; clear hs hd hold hdat hd2 hold2
  have hb := HS.out.box
  unfold D.cells at *
  go_enter Try.func8, Try.ntmps8
  go_upto_region 1 with fail
  generalize W.alloc (.cells #[Value.int .i64 d.op, .int .i64 d.id, .slice d.ao d.b.length d.cap, .int .i64 d.n] 24) = W1 at *
  generalize W.heap.size = g at *
  go_wp2_with fail
  refine K1.out.mono ?_
  rintro e w1 ⟨v1, ok1, rfl, ho1, hm1⟩
  have HM1 := Lib.hid hm1
  have HO1 := Lib.hid (HS.out.only.trans ho1)
  obtain ⟨d0, d1, d2, d3⟩ := HS.out.box.frame ho1
  clear ho1 hm1 hb
  cases ok1 with
  | false =>
    have KA := Lib.hid (HAW.out w1)
    go_wp2_with fail
    refine KA.out.mono ?_
    rintro e w4 ⟨rfl, ho⟩
    have HO4 := Lib.hid (HO1.out.trans ho); clear ho
    go_wp2
    go_ret
    exact ⟨rfl, HO4.out⟩
  | true =>
  obtain ⟨a, rfl, ma, hcount, -⟩ := HM1.out rfl
  obtain ⟨g5, c5, w5, hr5, hd5, ho5⟩ := more_app w1 d (HE.out.1.frame HO1.out (fun _ _ h => h)) hl2 hn2
  have KS := Lib.hid (short_any w5 (some ⟨g5, 0, none⟩) (d :: es) c5 hd5 (by rw [List.length_cons]; omega))
  have HM2 := Lib.hid (And.intro (ma.frame ho5) hcount)
  have HR5 := Lib.hid hr5
  clear ma HM1 K1 HO1 hcount hr5 hd5 ho5
  unfold D.cells at HR5
  go_wp2_with (first
    | ((with_reducible refine gate_app 48 rfl ?_); (refine wpList_append_wanted (by rfl) (.tmp 29) (.tmp 30) 48 48 rfl rfl _ _ (by rfl) (by rfl) _ _ HR5.out ?_))
    | fail)
  simp only [List.length_cons] at KS
  refine KS.out.mono ?_
  rintro e w2 ⟨q2, rfl, rfl, hq2⟩
  clear d0 d1 d2 d3 KS HR5
  have HQ2 := Lib.hid hq2
  clear hq2
  have HO2 := Lib.hid (HS.out.only.trans HM2.out.1.only)
  obtain ⟨d0, d1, d2, d3⟩ := HM2.out.1.box HS.out.box
  cases q2 with
  | false =>
    have KA := Lib.hid (HAW.out w2)
    go_wp2_with fail
    refine KA.out.mono ?_
    rintro e w4 ⟨rfl, ho⟩
    have HO4 := Lib.hid (HO2.out.trans ho); clear ho
    go_wp2
    go_ret
    exact ⟨rfl, HO4.out⟩
  | true =>
  have HQ := Lib.hid (show (es.length ≤ 299 ∧ lenD es ≤ 65536) ∧ d.b.length ≤ 1000000 from by have := HQ2.out rfl; simp only [lenD, List.length_cons] at this; omega)
  have HK := Lib.hid (keyOf_lt d.id)
  clear HQ2
  generalize runL (mostOf n) (roomOf r) ds [] = L at HM2
  have KS3 := Lib.hid (sum_any d.id w2)
  go_wp2_with fail
  refine KS3.out.mono ?_
  rintro e w3 ⟨rfl, ho3⟩
  have KE := Lib.hid ((HM2.out.1.frame ho3).evict_any HK.out)
  clear ho3 KS3
  go_wp2_with fail
  refine KE.out.mono ?_
  rintro e w4 ⟨⟨x4, rfl⟩, L4, hm4, hh4⟩
  clear d0 d1 d2 d3 HO2
  obtain ⟨d0, d1, d2, d3⟩ := hm4.box HS.out.box
  have HM4 := Lib.hid (And.intro (hm4.frame (Only.refl (fun _ => False) w4).drew) (And.intro hh4 HM2.out.2))
  clear KE hm4 hh4 HM2
  have x1 : w4.drew.cell? ⟨g, 1, none⟩ = some (.int .i64 d.id) := d1
  have x2 : w4.drew.cell? ⟨g, 2, none⟩ = some (.slice d.ao d.b.length d.cap) := d2
  clear d0 d1 d2 d3
  cases hfull : fullL (mostOf n) (roomOf r) d.b.length L4 with
  | true =>
    go_wp2_with fail
    refine wp_region_noPanic ?_
    refine wp_region_held_drew (S := (fun w' => w'.cell? ⟨g, 1, none⟩ = some (.int .i64 d.id) ∧ w'.cell? ⟨g, 2, none⟩ = some (.slice d.ao d.b.length d.cap))) (by kernel_rfl) (⟨x1, x2⟩) (fun hHeld => ?_)
    refine wpAnyH_take (i := 0) (v := ?_) rfl (by kernel_rfl) (by kernel_rfl) (by kernel_rfl) (fun _ _ _ h => h) (Or.inl ⟨by rfl, ?_⟩) (by assumption) ?_
    rotate_left
    · ((intro w hSw); (first | (go_simp; done) | (go_simp; with_reducible rfl)))
    (try simp only [Act.put, List.setIfInBounds_toArray, List.set_cons_zero, List.set_cons_succ, List.getElem_toArray, List.getElem_cons_succ, List.getElem_cons_zero])
    refine wpAnyH_take (i := 1) (v := ?_) rfl (by kernel_rfl) (by kernel_rfl) (by kernel_rfl) (fun _ _ _ h => h) (Or.inl ⟨by rfl, ?_⟩) (by assumption) ?_
    rotate_left
    · ((intro w hSw); (first | (go_simp; done) | (go_simp; with_reducible rfl)))
    (try simp only [Act.put, List.setIfInBounds_toArray, List.set_cons_zero, List.set_cons_succ, List.getElem_toArray, List.getElem_cons_succ, List.getElem_cons_zero])
    refine wpAnyH_take (i := 2) (v := ?_) rfl (by kernel_rfl) (by kernel_rfl) (by kernel_rfl) (fun _ _ _ h => h) (Or.inl ⟨by rfl, ?_⟩) (by assumption) ?_
    rotate_left
    · ((intro w hSw); (first | (go_simp; done) | (go_simp; with_reducible rfl)))
    (try simp only [Act.put, List.setIfInBounds_toArray, List.set_cons_zero, List.set_cons_succ, List.getElem_toArray, List.getElem_cons_succ, List.getElem_cons_zero])
    refine wpAnyH_take (i := 4) (v := ?_) rfl (by kernel_rfl) (by kernel_rfl) (by kernel_rfl) (fun _ _ _ h => h) (Or.inl ⟨by rfl, ?_⟩) (by assumption) ?_
    rotate_left
    · ((intro w hSw); (first | (go_simp; done) | (go_simp; with_reducible rfl)))
    (try simp only [Act.put, List.setIfInBounds_toArray, List.set_cons_zero, List.set_cons_succ, List.getElem_toArray, List.getElem_cons_succ, List.getElem_cons_zero])
    refine wpAnyH_take (i := 5) (v := ?_) rfl (by kernel_rfl) (by kernel_rfl) (by kernel_rfl) (fun _ _ _ h => h) (Or.inl ⟨by rfl, ?_⟩) (by assumption) ?_
    rotate_left
    · ((intro w hSw); (first | (go_simp; done) | (go_simp; with_reducible rfl)))
    (try simp only [Act.put, List.setIfInBounds_toArray, List.set_cons_zero, List.set_cons_succ, List.getElem_toArray, List.getElem_cons_succ, List.getElem_cons_zero])
    refine wpAnyH_ready (rs := [3]) (by kernel_rfl) (by simp) ?_
    refine AllReadyH.cons rfl (fun K hK => ?_) AllReadyH.nil
    go_simp
    (go_at_call 14; refine (sum_any d.id _).mono ?_; rintro e wc ⟨rfl, hoc⟩; have HMC := Lib.hid (HM4.out.1.frame hoc); have KP := Lib.hid (HMC.out.put HK.out HS.out.data d.cap HQ.out.2); unfold Ptr at KP; rw [putE_full HM4.out.2.1 hfull] at KP; obtain ⟨y0, y1, y2, y3⟩ := HMC.out.box HS.out.box; clear hoc y0 y3)
    (try go_wp2_with fail)
    refine hK.out _ _ (⟨y1, y2⟩) (fun hHeld => ?_)
    clear hK K
    (try simp only [Act.put, List.setIfInBounds_toArray, List.set_cons_zero, List.set_cons_succ, List.getElem_toArray, List.getElem_cons_succ, List.getElem_cons_zero])
    refine wpAnyH_ready (rs := [6]) (by kernel_rfl) (by simp) ?_
    refine AllReadyH.cons rfl (fun K hK => ?_) AllReadyH.nil
    go_simp
    (go_at_call 17; refine KP.out.mono ?_; rintro e wd ⟨rfl, hmd⟩; have HMD := Lib.hid hmd; obtain ⟨z0, z1, z2, z3⟩ := hmd.box HS.out.box; clear hmd KP HMC z0 z3)
    (try go_wp2_with fail)
    refine hK.out _ _ (⟨z1, z2⟩) (fun hHeld => ?_)
    clear hK K
    (try simp only [Act.put, List.setIfInBounds_toArray, List.set_cons_zero, List.set_cons_succ, List.getElem_toArray, List.getElem_cons_succ, List.getElem_cons_zero])
    refine wpAnyH_take (i := 7) (v := ?_) rfl (by kernel_rfl) (by kernel_rfl) (by kernel_rfl) (fun _ _ _ h => h) (Or.inl ⟨by rfl, ?_⟩) (by assumption) ?_
    rotate_left
    · ((intro w hSw); (first | (go_simp; done) | (go_simp; with_reducible rfl)))
    (try simp only [Act.put, List.setIfInBounds_toArray, List.set_cons_zero, List.set_cons_succ, List.getElem_toArray, List.getElem_cons_succ, List.getElem_cons_zero])
    refine wpAnyH_take (i := 8) (v := ?_) rfl (by kernel_rfl) (by kernel_rfl) (by kernel_rfl) (fun _ _ _ h => h) (Or.inl ⟨by rfl, ?_⟩) (by assumption) ?_
    rotate_left
    · ((intro w hSw); (first | (go_simp; done) | (go_simp; with_reducible rfl)))
    (try simp only [Act.put, List.setIfInBounds_toArray, List.set_cons_zero, List.set_cons_succ, List.getElem_toArray, List.getElem_cons_succ, List.getElem_cons_zero])
    refine wpAnyH_take (i := 9) (v := undef) rfl (by kernel_rfl) (by kernel_rfl) (by kernel_rfl) (fun _ _ _ h => h) (Or.inr ⟨by rfl, rfl⟩) (by assumption) ?_
    (try simp only [Act.put, List.setIfInBounds_toArray, List.set_cons_zero, List.set_cons_succ, List.getElem_toArray, List.getElem_cons_succ, List.getElem_cons_zero])
    refine wpAnyH_take (i := 10) (v := undef) rfl (by kernel_rfl) (by kernel_rfl) (by kernel_rfl) (fun _ _ _ h => h) (Or.inr ⟨by rfl, rfl⟩) (by assumption) ?_
    (try simp only [Act.put, List.setIfInBounds_toArray, List.set_cons_zero, List.set_cons_succ, List.getElem_toArray, List.getElem_cons_succ, List.getElem_cons_zero])
    refine wpAnyH_take (i := 11) (v := undef) rfl (by kernel_rfl) (by kernel_rfl) (by kernel_rfl) (fun _ _ _ h => h) (Or.inr ⟨by rfl, rfl⟩) (by assumption) ?_
    (try simp only [Act.put, List.setIfInBounds_toArray, List.set_cons_zero, List.set_cons_succ, List.getElem_toArray, List.getElem_cons_succ, List.getElem_cons_zero])
    refine wpAnyH_take (i := 12) (v := undef) rfl (by kernel_rfl) (by kernel_rfl) (by kernel_rfl) (fun _ _ _ h => h) (Or.inr ⟨by rfl, rfl⟩) (by assumption) ?_
    (try simp only [Act.put, List.setIfInBounds_toArray, List.set_cons_zero, List.set_cons_succ, List.getElem_toArray, List.getElem_cons_succ, List.getElem_cons_zero])
    refine wpAnyH_take (i := 13) (v := undef) rfl (by kernel_rfl) (by kernel_rfl) (by kernel_rfl) (fun _ _ _ h => h) (Or.inr ⟨by rfl, rfl⟩) (by assumption) ?_
    (try simp only [Act.put, List.setIfInBounds_toArray, List.set_cons_zero, List.set_cons_succ, List.getElem_toArray, List.getElem_cons_succ, List.getElem_cons_zero])
    refine wpAnyH_take (i := 14) (v := undef) rfl (by kernel_rfl) (by kernel_rfl) (by kernel_rfl) (fun _ _ _ h => h) (Or.inr ⟨by rfl, rfl⟩) (by assumption) ?_
    (try simp only [Act.put, List.setIfInBounds_toArray, List.set_cons_zero, List.set_cons_succ, List.getElem_toArray, List.getElem_cons_succ, List.getElem_cons_zero])
    refine wpAnyH_take (i := 15) (v := ?_) rfl (by kernel_rfl) (by kernel_rfl) (by kernel_rfl) (fun _ _ _ h => h) (Or.inl ⟨by rfl, ?_⟩) (by assumption) ?_
    rotate_left
    · ((intro w hSw); (first | (go_simp; done) | (go_simp; with_reducible rfl)))
    (try simp only [Act.put, List.setIfInBounds_toArray, List.set_cons_zero, List.set_cons_succ, List.getElem_toArray, List.getElem_cons_succ, List.getElem_cons_zero])
    refine wpAnyH_done (by kernel_rfl) ?_ _
    refine NoPanic.normal ?_
    have HOE := Lib.hid (HS.out.only.trans HMD.out.only)
    go_wp2_with fail
    refine (HAW.out _).mono ?_
    rintro e w4 ⟨rfl, ho⟩
    have HO4 := Lib.hid (HOE.out.trans ho); clear ho
    go_wp2
    go_ret
    exact ⟨rfl, HO4.out⟩
  | false =>
    go_wp2_with fail
    refine wp_region_noPanic ?_
    refine wp_region_held_drew (S := (fun w' => w'.cell? ⟨g, 1, none⟩ = some (.int .i64 d.id) ∧ w'.cell? ⟨g, 2, none⟩ = some (.slice d.ao d.b.length d.cap))) (by kernel_rfl) (⟨x1, x2⟩) (fun hHeld => ?_)
    refine wpAnyH_take (i := 0) (v := ?_) rfl (by kernel_rfl) (by kernel_rfl) (by kernel_rfl) (fun _ _ _ h => h) (Or.inl ⟨by rfl, ?_⟩) (by assumption) ?_
    rotate_left
    · ((intro w hSw); (first | (go_simp; done) | (go_simp; with_reducible rfl)))
    (try simp only [Act.put, List.setIfInBounds_toArray, List.set_cons_zero, List.set_cons_succ, List.getElem_toArray, List.getElem_cons_succ, List.getElem_cons_zero])
    refine wpAnyH_take (i := 1) (v := ?_) rfl (by kernel_rfl) (by kernel_rfl) (by kernel_rfl) (fun _ _ _ h => h) (Or.inl ⟨by rfl, ?_⟩) (by assumption) ?_
    rotate_left
    · ((intro w hSw); (first | (go_simp; done) | (go_simp; with_reducible rfl)))
    (try simp only [Act.put, List.setIfInBounds_toArray, List.set_cons_zero, List.set_cons_succ, List.getElem_toArray, List.getElem_cons_succ, List.getElem_cons_zero])
    refine wpAnyH_take (i := 2) (v := ?_) rfl (by kernel_rfl) (by kernel_rfl) (by kernel_rfl) (fun _ _ _ h => h) (Or.inl ⟨by rfl, ?_⟩) (by assumption) ?_
    rotate_left
    · ((intro w hSw); (first | (go_simp; done) | (go_simp; with_reducible rfl)))
    (try simp only [Act.put, List.setIfInBounds_toArray, List.set_cons_zero, List.set_cons_succ, List.getElem_toArray, List.getElem_cons_succ, List.getElem_cons_zero])
    refine wpAnyH_take (i := 4) (v := ?_) rfl (by kernel_rfl) (by kernel_rfl) (by kernel_rfl) (fun _ _ _ h => h) (Or.inl ⟨by rfl, ?_⟩) (by assumption) ?_
    rotate_left
    · ((intro w hSw); (first | (go_simp; done) | (go_simp; with_reducible rfl)))
    (try simp only [Act.put, List.setIfInBounds_toArray, List.set_cons_zero, List.set_cons_succ, List.getElem_toArray, List.getElem_cons_succ, List.getElem_cons_zero])
    refine wpAnyH_take (i := 5) (v := ?_) rfl (by kernel_rfl) (by kernel_rfl) (by kernel_rfl) (fun _ _ _ h => h) (Or.inl ⟨by rfl, ?_⟩) (by assumption) ?_
    rotate_left
    · ((intro w hSw); (first | (go_simp; done) | (go_simp; with_reducible rfl)))
    (try simp only [Act.put, List.setIfInBounds_toArray, List.set_cons_zero, List.set_cons_succ, List.getElem_toArray, List.getElem_cons_succ, List.getElem_cons_zero])
    refine wpAnyH_ready (rs := [3]) (by kernel_rfl) (by simp) ?_
    refine AllReadyH.cons rfl (fun K hK => ?_) AllReadyH.nil
    go_simp
    (go_at_call 14; refine (sum_any d.id _).mono ?_; rintro e wc ⟨rfl, hoc⟩; have HMC := Lib.hid (HM4.out.1.frame hoc); have KP := Lib.hid (HMC.out.put HK.out HS.out.data d.cap HQ.out.2); unfold Ptr at KP; rw [putE_free HM4.out.2.1 hfull] at KP; obtain ⟨y0, y1, y2, y3⟩ := HMC.out.box HS.out.box; clear hoc y0 y3)
    (try go_wp2_with fail)
    refine hK.out _ _ (⟨y1, y2⟩) (fun hHeld => ?_)
    clear hK K
    (try simp only [Act.put, List.setIfInBounds_toArray, List.set_cons_zero, List.set_cons_succ, List.getElem_toArray, List.getElem_cons_succ, List.getElem_cons_zero])
    refine wpAnyH_ready (rs := [6]) (by kernel_rfl) (by simp) ?_
    refine AllReadyH.cons rfl (fun K hK => ?_) AllReadyH.nil
    go_simp
    (go_at_call 17; refine KP.out.mono ?_; rintro e wd ⟨rfl, hmd⟩; have HMD := Lib.hid hmd; obtain ⟨z0, z1, z2, z3⟩ := hmd.box HS.out.box; clear hmd KP HMC z0 z3)
    (try go_wp2_with fail)
    refine hK.out _ _ (⟨z1, z2⟩) (fun hHeld => ?_)
    clear hK K
    (try simp only [Act.put, List.setIfInBounds_toArray, List.set_cons_zero, List.set_cons_succ, List.getElem_toArray, List.getElem_cons_succ, List.getElem_cons_zero])
    refine wpAnyH_take (i := 7) (v := ?_) rfl (by kernel_rfl) (by kernel_rfl) (by kernel_rfl) (fun _ _ _ h => h) (Or.inl ⟨by rfl, ?_⟩) (by assumption) ?_
    rotate_left
    · ((intro w hSw); (first | (go_simp; done) | (go_simp; with_reducible rfl)))
    (try simp only [Act.put, List.setIfInBounds_toArray, List.set_cons_zero, List.set_cons_succ, List.getElem_toArray, List.getElem_cons_succ, List.getElem_cons_zero])
    refine wpAnyH_take (i := 8) (v := ?_) rfl (by kernel_rfl) (by kernel_rfl) (by kernel_rfl) (fun _ _ _ h => h) (Or.inl ⟨by rfl, ?_⟩) (by assumption) ?_
    rotate_left
    · ((intro w hSw); (first | (go_simp; done) | (go_simp; with_reducible rfl)))
    (try simp only [Act.put, List.setIfInBounds_toArray, List.set_cons_zero, List.set_cons_succ, List.getElem_toArray, List.getElem_cons_succ, List.getElem_cons_zero])
    refine wpAnyH_take (i := 9) (v := ?_) rfl (by kernel_rfl) (by kernel_rfl) (by kernel_rfl) (fun _ _ _ h => h) (Or.inl ⟨by rfl, ?_⟩) (by assumption) ?_
    rotate_left
    · ((intro w hSw); (first | (go_simp; done) | (go_simp; with_reducible rfl)))
    (try simp only [Act.put, List.setIfInBounds_toArray, List.set_cons_zero, List.set_cons_succ, List.getElem_toArray, List.getElem_cons_succ, List.getElem_cons_zero])
    refine wpAnyH_take (i := 10) (v := ?_) rfl (by kernel_rfl) (by kernel_rfl) (by kernel_rfl) (fun _ _ _ h => h) (Or.inl ⟨by rfl, ?_⟩) (by assumption) ?_
    rotate_left
    · ((intro w hSw); (first | (go_simp; done) | (go_simp; with_reducible rfl)))
    (try simp only [Act.put, List.setIfInBounds_toArray, List.set_cons_zero, List.set_cons_succ, List.getElem_toArray, List.getElem_cons_succ, List.getElem_cons_zero])
    refine wpAnyH_take (i := 11) (v := ?_) rfl (by kernel_rfl) (by kernel_rfl) (by kernel_rfl) (fun _ _ _ h => h) (Or.inl ⟨by rfl, ?_⟩) (by assumption) ?_
    rotate_left
    · ((intro w hSw); (first | (go_simp; done) | (go_simp; with_reducible rfl)))
    (try simp only [Act.put, List.setIfInBounds_toArray, List.set_cons_zero, List.set_cons_succ, List.getElem_toArray, List.getElem_cons_succ, List.getElem_cons_zero])
    refine wpAnyH_ready (rs := [12]) (by kernel_rfl) (by simp) ?_
    refine AllReadyH.cons rfl (fun K hK => ?_) AllReadyH.nil
    go_simp
    (go_at_call 14; refine (sum_any d.id _).mono ?_; rintro e we ⟨rfl, hoe⟩; have HME := Lib.hid (HMD.out.frame hoe); have KN := Lib.hid (HME.out.pin HK.out (by have := HM4.out.2.2; omega)); unfold Ptr at KN; rw [getE_has (put_new HM4.out.2.1 hfull).1] at KN; obtain ⟨y0, y1, y2, y3⟩ := HME.out.box HS.out.box; clear hoe y0 y3 HMD)
    (try go_wp2_with fail)
    refine hK.out _ _ (⟨y1, y2⟩) (fun hHeld => ?_)
    clear hK K
    (try simp only [Act.put, List.setIfInBounds_toArray, List.set_cons_zero, List.set_cons_succ, List.getElem_toArray, List.getElem_cons_succ, List.getElem_cons_zero])
    refine wpAnyH_ready (rs := [13]) (by kernel_rfl) (by simp) ?_
    refine AllReadyH.cons rfl (fun K hK => ?_) AllReadyH.nil
    go_simp
    (go_at_call 18; refine KN.out.mono ?_; rintro e wf ⟨rfl, hmf⟩; have HMF := Lib.hid (And.intro hmf (stays_start HM4.out.2.1 hfull)); obtain ⟨z0, z1, z2, z3⟩ := hmf.box HS.out.box; clear hmf KN HME z0 z3)
    (try go_wp2_with fail)
    refine hK.out _ _ (⟨z1, z2⟩) (fun hHeld => ?_)
    clear hK K
    (try simp only [Act.put, List.setIfInBounds_toArray, List.set_cons_zero, List.set_cons_succ, List.getElem_toArray, List.getElem_cons_succ, List.getElem_cons_zero])
    refine wpAnyH_take (i := 14) (v := ?_) rfl (by kernel_rfl) (by kernel_rfl) (by kernel_rfl) (fun _ _ _ h => h) (Or.inl ⟨by rfl, ?_⟩) (by assumption) ?_
    rotate_left
    · ((intro w hSw); (first | (go_simp; done) | (go_simp; with_reducible rfl)))
    (try simp only [Act.put, List.setIfInBounds_toArray, List.set_cons_zero, List.set_cons_succ, List.getElem_toArray, List.getElem_cons_succ, List.getElem_cons_zero])
    refine wpAnyH_take (i := 15) (v := ?_) rfl (by kernel_rfl) (by kernel_rfl) (by kernel_rfl) (fun _ _ _ h => h) (Or.inl ⟨by rfl, ?_⟩) (by assumption) ?_
    rotate_left
    · ((intro w hSw); (first | (go_simp; done) | (go_simp; with_reducible rfl)))
    (try simp only [Act.put, List.setIfInBounds_toArray, List.set_cons_zero, List.set_cons_succ, List.getElem_toArray, List.getElem_cons_succ, List.getElem_cons_zero])
    refine wpAnyH_done (by kernel_rfl) ?_ _
    refine NoPanic.normal ?_
    have HM6 := Lib.hid (And.intro HMF.out HM4.out.2.2)
    clear HMF HM4 hfull x1 x2 y1 y2 z1 z2
    have hq1 := HQ.out.1.1
    go_wp2_with fail
    go_loopg [60] es.length (fun gg v wl => ∃ i : Nat, v = .int .i64 i ∧ Hid (i + gg = es.length ∧ ∃ M, Mine W1 wl a (mostOf n) (roomOf r) (ds.length + 1 + i) M ∧ Stays (keyOf d.id) d.b M))
    case atStart => exact ⟨0, rfl, Lib.hid ⟨by omega, _, HM6.out.1⟩⟩
    case round =>
      obtain ⟨i, rfl, hh⟩ := hrel
      obtain ⟨hig, M, hmM, hsM⟩ := hh.out
      have hdl := HM6.out.2
      clear hh
      by_cases hi : i < es.length
      · have hi' : (i : Int) < (es.length : Int) := by omega
        have b0 : (0 : Int) ≤ i := by omega
        have hmem : es[i] ∈ es := List.getElem_mem hi
        obtain ⟨sb, so, h1, h2, h3, h4, h5⟩ := HE.out.1.frame (HS.out.only.trans hmM.only) (fun _ _ h => h) i es[i] (List.getElem?_eq_getElem hi)
        have hdat1 : DataAt W1 (fun y => y < W1.heap.size) es[i].ao es[i].b := HE.out.2 _ hmem
        have hlm : es[i].b.length ≤ 1000000 := by have := len_mem hmem; have := HQ.out.1.2; omega
        generalize es[i] = z at *
        have h1' := Lib.hid h1; clear h1
        obtain rfl := h1'.out
        clear h1' hmem
        have ho1 : Only (fun _ => False) wr (wr.alloc (.cells z.cells.toArray 24)) := (Only.refl _ wr).alloc _
        have HZ := Lib.hid (And.intro hdat1 hlm)
        have HBX := Lib.hid (And.intro (box_new wr z 24) (And.intro (hmM.frame ho1) hsM))
        have hw := op_wrap z.op
        clear hdat1 hlm hmM hsM ho1
        unfold D.cells at HBX
        go_upto_region 11 with fail
        rw [hw]
        generalize wr.alloc (.cells #[Value.int .i64 z.op, .int .i64 z.id, .slice z.ao z.b.length z.cap, .int .i64 z.n] 24) = wv at *
        generalize wr.heap.size = gb at *
        clear hw h2 h3 h4 h5
        have HBY := Lib.hid (And.intro (HBX.out.1.frame (Only.refl (fun _ => False) wv).drew) (HBX.out.2.1.frame (Only.refl (fun _ => False) wv).drew))
        have HST := Lib.hid HBX.out.2.2
        clear HBX
        obtain ⟨x0, x1, x2, x3⟩ := HBY.out.1
        obtain ⟨y0, y1, y2, y3⟩ := HBY.out.2.box HS.out.box
        clear x0 x2 x3 y0 y2 y3
        by_cases c7 : z.op % 8 = 7
        · go_wp2_with fail
          refine wp_region_noPanic ?_
          refine wp_region_held_drew (S := (fun w' => w'.cell? ⟨gb, 1, none⟩ = some (.int .i64 z.id) ∧ w'.cell? ⟨g, 1, none⟩ = some (.int .i64 d.id))) (by kernel_rfl) (⟨x1, y1⟩) (fun hHeld => ?_)
          refine wpAnyH_take (i := 0) (v := ?_) rfl (by kernel_rfl) (by kernel_rfl) (by kernel_rfl) (fun _ _ _ h => h) (Or.inl ⟨by rfl, ?_⟩) (by assumption) ?_
          rotate_left
          · ((intro w hSw); (first | (go_simp; done) | (go_simp; with_reducible rfl)))
          (try simp only [Act.put, List.setIfInBounds_toArray, List.set_cons_zero, List.set_cons_succ, List.getElem_toArray, List.getElem_cons_succ, List.getElem_cons_zero])
          refine wpAnyH_take (i := 1) (v := ?_) rfl (by kernel_rfl) (by kernel_rfl) (by kernel_rfl) (fun _ _ _ h => h) (Or.inl ⟨by rfl, ?_⟩) (by assumption) ?_
          rotate_left
          · ((intro w hSw); (first | (go_simp; done) | (go_simp; with_reducible rfl)))
          (try simp only [Act.put, List.setIfInBounds_toArray, List.set_cons_zero, List.set_cons_succ, List.getElem_toArray, List.getElem_cons_succ, List.getElem_cons_zero])
          refine wpAnyH_take (i := 2) (v := ?_) rfl (by kernel_rfl) (by kernel_rfl) (by kernel_rfl) (fun _ _ _ h => h) (Or.inl ⟨by rfl, ?_⟩) (by assumption) ?_
          rotate_left
          · ((intro w hSw); (first | (go_simp; done) | (go_simp; with_reducible rfl)))
          (try simp only [Act.put, List.setIfInBounds_toArray, List.set_cons_zero, List.set_cons_succ, List.getElem_toArray, List.getElem_cons_succ, List.getElem_cons_zero])
          refine wpAnyH_take (i := 3) (v := undef) rfl (by kernel_rfl) (by kernel_rfl) (by kernel_rfl) (fun _ _ _ h => h) (Or.inr ⟨by rfl, rfl⟩) (by assumption) ?_
          (try simp only [Act.put, List.setIfInBounds_toArray, List.set_cons_zero, List.set_cons_succ, List.getElem_toArray, List.getElem_cons_succ, List.getElem_cons_zero])
          refine wpAnyH_take (i := 4) (v := undef) rfl (by kernel_rfl) (by kernel_rfl) (by kernel_rfl) (fun _ _ _ h => h) (Or.inr ⟨by rfl, rfl⟩) (by assumption) ?_
          (try simp only [Act.put, List.setIfInBounds_toArray, List.set_cons_zero, List.set_cons_succ, List.getElem_toArray, List.getElem_cons_succ, List.getElem_cons_zero])
          refine wpAnyH_take (i := 5) (v := undef) rfl (by kernel_rfl) (by kernel_rfl) (by kernel_rfl) (fun _ _ _ h => h) (Or.inr ⟨by rfl, rfl⟩) (by assumption) ?_
          (try simp only [Act.put, List.setIfInBounds_toArray, List.set_cons_zero, List.set_cons_succ, List.getElem_toArray, List.getElem_cons_succ, List.getElem_cons_zero])
          refine wpAnyH_take (i := 6) (v := undef) rfl (by kernel_rfl) (by kernel_rfl) (by kernel_rfl) (fun _ _ _ h => h) (Or.inr ⟨by rfl, rfl⟩) (by assumption) ?_
          (try simp only [Act.put, List.setIfInBounds_toArray, List.set_cons_zero, List.set_cons_succ, List.getElem_toArray, List.getElem_cons_succ, List.getElem_cons_zero])
          refine wpAnyH_take (i := 7) (v := undef) rfl (by kernel_rfl) (by kernel_rfl) (by kernel_rfl) (fun _ _ _ h => h) (Or.inr ⟨by rfl, rfl⟩) (by assumption) ?_
          (try simp only [Act.put, List.setIfInBounds_toArray, List.set_cons_zero, List.set_cons_succ, List.getElem_toArray, List.getElem_cons_succ, List.getElem_cons_zero])
          refine wpAnyH_take (i := 8) (v := undef) rfl (by kernel_rfl) (by kernel_rfl) (by kernel_rfl) (fun _ _ _ h => h) (Or.inr ⟨by rfl, rfl⟩) (by assumption) ?_
          (try simp only [Act.put, List.setIfInBounds_toArray, List.set_cons_zero, List.set_cons_succ, List.getElem_toArray, List.getElem_cons_succ, List.getElem_cons_zero])
          refine wpAnyH_take (i := 9) (v := undef) rfl (by kernel_rfl) (by kernel_rfl) (by kernel_rfl) (fun _ _ _ h => h) (Or.inr ⟨by rfl, rfl⟩) (by assumption) ?_
          (try simp only [Act.put, List.setIfInBounds_toArray, List.set_cons_zero, List.set_cons_succ, List.getElem_toArray, List.getElem_cons_succ, List.getElem_cons_zero])
          refine wpAnyH_take (i := 10) (v := undef) rfl (by kernel_rfl) (by kernel_rfl) (by kernel_rfl) (fun _ _ _ h => h) (Or.inr ⟨by rfl, rfl⟩) (by assumption) ?_
          (try simp only [Act.put, List.setIfInBounds_toArray, List.set_cons_zero, List.set_cons_succ, List.getElem_toArray, List.getElem_cons_succ, List.getElem_cons_zero])
          refine wpAnyH_take (i := 11) (v := undef) rfl (by kernel_rfl) (by kernel_rfl) (by kernel_rfl) (fun _ _ _ h => h) (Or.inr ⟨by rfl, rfl⟩) (by assumption) ?_
          (try simp only [Act.put, List.setIfInBounds_toArray, List.set_cons_zero, List.set_cons_succ, List.getElem_toArray, List.getElem_cons_succ, List.getElem_cons_zero])
          refine wpAnyH_take (i := 12) (v := undef) rfl (by kernel_rfl) (by kernel_rfl) (by kernel_rfl) (fun _ _ _ h => h) (Or.inr ⟨by rfl, rfl⟩) (by assumption) ?_
          (try simp only [Act.put, List.setIfInBounds_toArray, List.set_cons_zero, List.set_cons_succ, List.getElem_toArray, List.getElem_cons_succ, List.getElem_cons_zero])
          refine wpAnyH_take (i := 13) (v := undef) rfl (by kernel_rfl) (by kernel_rfl) (by kernel_rfl) (fun _ _ _ h => h) (Or.inr ⟨by rfl, rfl⟩) (by assumption) ?_
          (try simp only [Act.put, List.setIfInBounds_toArray, List.set_cons_zero, List.set_cons_succ, List.getElem_toArray, List.getElem_cons_succ, List.getElem_cons_zero])
          refine wpAnyH_take (i := 14) (v := ?_) rfl (by kernel_rfl) (by kernel_rfl) (by kernel_rfl) (fun _ _ _ h => h) (Or.inl ⟨by rfl, ?_⟩) (by assumption) ?_
          rotate_left
          · ((intro w hSw); (first | (go_simp; done) | (go_simp; with_reducible rfl)))
          (try simp only [Act.put, List.setIfInBounds_toArray, List.set_cons_zero, List.set_cons_succ, List.getElem_toArray, List.getElem_cons_succ, List.getElem_cons_zero])
          refine wpAnyH_done (by kernel_rfl) ?_ _
          refine NoPanic.normal ?_
          clear x1 y1
          have HF := Lib.hid (And.intro HBY.out.2 HST.out)
          clear HBY HST
          go_wp2
          go_roundg (es.length - (i + 1))
          case measure => omega
          case rel => exact ⟨i + 1, by go_num, Lib.hid ⟨by omega, M, (by obtain ⟨F, r1, r2⟩ := HF.out.1.rep; exact ⟨⟨F, r1.more (by omega), r2⟩, HF.out.1.only⟩), HF.out.2⟩⟩
        · have c7' : (z.op % 8 == 7) = false := by simpa using c7
          have heq : ∀ w, (Op.equalIn 10000 38 (.agg (sumC (keyOf z.id)).toArray) (.agg (sumC (keyOf d.id)).toArray)).run Try.prog w = .ok (decide (keyOf z.id = keyOf d.id)) w := fun w => equalIn_sums w (keyOf_lt z.id) HK.out
          have HC7 := Lib.hid c7; clear c7
          by_cases ck : keyOf z.id = keyOf d.id
          · rw [decide_eq_true ck] at heq
            have HCK := Lib.hid ck; clear ck
            by_cases c4 : 4 < z.op % 8
            · go_wp2_with fail
              refine wp_region_noPanic ?_
              refine wp_region_held_drew (S := (fun w' => w'.cell? ⟨gb, 1, none⟩ = some (.int .i64 z.id) ∧ w'.cell? ⟨g, 1, none⟩ = some (.int .i64 d.id))) (by kernel_rfl) (⟨x1, y1⟩) (fun hHeld => ?_)
              refine wpAnyH_take (i := 0) (v := ?_) rfl (by kernel_rfl) (by kernel_rfl) (by kernel_rfl) (fun _ _ _ h => h) (Or.inl ⟨by rfl, ?_⟩) (by assumption) ?_
              rotate_left
              · ((intro w hSw); (first | (go_simp; done) | (go_simp; with_reducible rfl)))
              (try simp only [Act.put, List.setIfInBounds_toArray, List.set_cons_zero, List.set_cons_succ, List.getElem_toArray, List.getElem_cons_succ, List.getElem_cons_zero])
              refine wpAnyH_take (i := 1) (v := ?_) rfl (by kernel_rfl) (by kernel_rfl) (by kernel_rfl) (fun _ _ _ h => h) (Or.inl ⟨by rfl, ?_⟩) (by assumption) ?_
              rotate_left
              · ((intro w hSw); (first | (go_simp; done) | (go_simp; with_reducible rfl)))
              (try simp only [Act.put, List.setIfInBounds_toArray, List.set_cons_zero, List.set_cons_succ, List.getElem_toArray, List.getElem_cons_succ, List.getElem_cons_zero])
              refine wpAnyH_take (i := 2) (v := ?_) rfl (by kernel_rfl) (by kernel_rfl) (by kernel_rfl) (fun _ _ _ h => h) (Or.inl ⟨by rfl, ?_⟩) (by assumption) ?_
              rotate_left
              · ((intro w hSw); (first | (go_simp; done) | (go_simp; with_reducible rfl)))
              (try simp only [Act.put, List.setIfInBounds_toArray, List.set_cons_zero, List.set_cons_succ, List.getElem_toArray, List.getElem_cons_succ, List.getElem_cons_zero])
              refine wpAnyH_take (i := 3) (v := ?_) rfl (by kernel_rfl) (by kernel_rfl) (by kernel_rfl) (fun _ _ _ h => h) (Or.inl ⟨by rfl, ?_⟩) (by assumption) ?_
              rotate_left
              · ((intro w hSw); (first | (go_simp; done) | (go_simp; with_reducible rfl)))
              (try simp only [Act.put, List.setIfInBounds_toArray, List.set_cons_zero, List.set_cons_succ, List.getElem_toArray, List.getElem_cons_succ, List.getElem_cons_zero])
              refine wpAnyH_take (i := 4) (v := ?_) rfl (by kernel_rfl) (by kernel_rfl) (by kernel_rfl) (fun _ _ _ h => h) (Or.inl ⟨by rfl, ?_⟩) (by assumption) ?_
              rotate_left
              · ((intro w hSw); (first | (go_simp; done) | (go_simp; with_reducible rfl)))
              (try simp only [Act.put, List.setIfInBounds_toArray, List.set_cons_zero, List.set_cons_succ, List.getElem_toArray, List.getElem_cons_succ, List.getElem_cons_zero])
              refine wpAnyH_take (i := 6) (v := ?_) rfl (by kernel_rfl) (by kernel_rfl) (by kernel_rfl) (fun _ _ _ h => h) (Or.inl ⟨by rfl, ?_⟩) (by assumption) ?_
              rotate_left
              · ((intro w hSw); (first | (go_simp; done) | (go_simp; with_reducible rfl)))
              (try simp only [Act.put, List.setIfInBounds_toArray, List.set_cons_zero, List.set_cons_succ, List.getElem_toArray, List.getElem_cons_succ, List.getElem_cons_zero])
              refine wpAnyH_take (i := 7) (v := ?_) rfl (by kernel_rfl) (by kernel_rfl) (by kernel_rfl) (fun _ _ _ h => h) (Or.inl ⟨by rfl, ?_⟩) (by assumption) ?_
              rotate_left
              · ((intro w hSw); (first | (go_simp; done) | (go_simp; with_reducible rfl)))
              (try simp only [Act.put, List.setIfInBounds_toArray, List.set_cons_zero, List.set_cons_succ, List.getElem_toArray, List.getElem_cons_succ, List.getElem_cons_zero])
              refine wpAnyH_ready (rs := [5]) (by kernel_rfl) (by simp) ?_
              refine AllReadyH.cons rfl (fun K hK => ?_) AllReadyH.nil
              go_simp
              (go_at_call 14; refine (sum_agg z.id _).mono ?_; rintro e wa ⟨rfl, hoa⟩; have HBA := Lib.hid (And.intro (HBY.out.1.frame hoa) (HBY.out.2.frame hoa)); obtain ⟨q0, q1, q2, q3⟩ := HBA.out.1; obtain ⟨p0, p1, p2, p3⟩ := HBA.out.2.box HS.out.box; clear hoa q0 q2 q3 p0 p2 p3 x1 y1 HBY)
              (try go_wp2_with fail)
              refine hK.out _ _ (⟨q1, p1⟩) (fun hHeld => ?_)
              clear hK K
              (try simp only [Act.put, List.setIfInBounds_toArray, List.set_cons_zero, List.set_cons_succ, List.getElem_toArray, List.getElem_cons_succ, List.getElem_cons_zero])
              refine wpAnyH_ready (rs := [8]) (by kernel_rfl) (by simp) ?_
              refine AllReadyH.cons rfl (fun K hK => ?_) AllReadyH.nil
              go_simp
              (go_at_call 14; refine (sum_agg d.id _).mono ?_; rintro e wb ⟨rfl, hob⟩; have HBZ := Lib.hid (And.intro (HBA.out.1.frame hob) (HBA.out.2.frame hob)); obtain ⟨x0, x1, x2, x3⟩ := HBZ.out.1; obtain ⟨y0, y1, y2, y3⟩ := HBZ.out.2.box HS.out.box; clear hob x0 x2 x3 y0 y2 y3 q1 p1 HBA)
              (try go_wp2_with fail)
              refine hK.out _ _ (⟨x1, y1⟩) (fun hHeld => ?_)
              clear hK K
              (try simp only [Act.put, List.setIfInBounds_toArray, List.set_cons_zero, List.set_cons_succ, List.getElem_toArray, List.getElem_cons_succ, List.getElem_cons_zero])
              refine wpAnyH_take (i := 9) (v := ?_) rfl (by kernel_rfl) (by kernel_rfl) (by kernel_rfl) (fun _ _ _ h => h) (Or.inl ⟨by rfl, ?_⟩) (by assumption) ?_
              rotate_left
              · ((intro w hSw); (first | (go_simp; done) | (go_simp; with_reducible rfl)))
              (try simp only [Act.put, List.setIfInBounds_toArray, List.set_cons_zero, List.set_cons_succ, List.getElem_toArray, List.getElem_cons_succ, List.getElem_cons_zero])
              refine wpAnyH_take (i := 10) (v := ?_) rfl (by kernel_rfl) (by kernel_rfl) (by kernel_rfl) (fun _ _ _ h => h) (Or.inl ⟨by rfl, ?_⟩) (by assumption) ?_
              rotate_left
              · ((intro w hSw); (first | (go_simp; done) | (go_simp; with_reducible rfl)))
              (try simp only [Act.put, List.setIfInBounds_toArray, List.set_cons_zero, List.set_cons_succ, List.getElem_toArray, List.getElem_cons_succ, List.getElem_cons_zero])
              refine wpAnyH_take (i := 11) (v := ?_) rfl (by kernel_rfl) (by kernel_rfl) (by kernel_rfl) (fun _ _ _ h => h) (Or.inl ⟨by rfl, ?_⟩) (by assumption) ?_
              rotate_left
              · ((intro w hSw); (first | (go_simp; done) | (go_simp; with_reducible rfl)))
              (try simp only [Act.put, List.setIfInBounds_toArray, List.set_cons_zero, List.set_cons_succ, List.getElem_toArray, List.getElem_cons_succ, List.getElem_cons_zero])
              refine wpAnyH_take (i := 12) (v := ?_) rfl (by kernel_rfl) (by kernel_rfl) (by kernel_rfl) (fun _ _ _ h => h) (Or.inl ⟨by rfl, ?_⟩) (by assumption) ?_
              rotate_left
              · ((intro w hSw); (first | (go_simp; done) | (go_simp; with_reducible rfl)))
              (try simp only [Act.put, List.setIfInBounds_toArray, List.set_cons_zero, List.set_cons_succ, List.getElem_toArray, List.getElem_cons_succ, List.getElem_cons_zero])
              refine wpAnyH_take (i := 13) (v := ?_) rfl (by kernel_rfl) (by kernel_rfl) (by kernel_rfl) (fun _ _ _ h => h) (Or.inl ⟨by rfl, ?_⟩) (by assumption) ?_
              rotate_left
              · ((intro w hSw); (first | (go_simp; done) | (go_simp; with_reducible rfl)))
              (try simp only [Act.put, List.setIfInBounds_toArray, List.set_cons_zero, List.set_cons_succ, List.getElem_toArray, List.getElem_cons_succ, List.getElem_cons_zero])
              refine wpAnyH_take (i := 14) (v := ?_) rfl (by kernel_rfl) (by kernel_rfl) (by kernel_rfl) (fun _ _ _ h => h) (Or.inl ⟨by rfl, ?_⟩) (by assumption) ?_
              rotate_left
              · ((intro w hSw); (first | (go_simp; done) | (go_simp; with_reducible rfl)))
              (try simp only [Act.put, List.setIfInBounds_toArray, List.set_cons_zero, List.set_cons_succ, List.getElem_toArray, List.getElem_cons_succ, List.getElem_cons_zero])
              refine wpAnyH_done (by kernel_rfl) ?_ _
              refine NoPanic.normal ?_
              have HF := Lib.hid (And.intro HBZ.out.2 HST.out)
              clear HBZ HST heq c7' x1 y1
              go_wp2
              go_roundg (es.length - (i + 1))
              case measure => omega
              case rel => exact ⟨i + 1, by go_num, Lib.hid ⟨by omega, M, (by obtain ⟨F, r1, r2⟩ := HF.out.1.rep; exact ⟨⟨F, r1.more (by omega), r2⟩, HF.out.1.only⟩), HF.out.2⟩⟩
            · have c4' : decide (4 < z.op % 8) = false := decide_eq_false c4
              have HC4 := Lib.hid c4; clear c4
              go_wp2_with fail
              refine wp_region_noPanic ?_
              refine wp_region_held_drew (S := (fun w' => w'.cell? ⟨gb, 1, none⟩ = some (.int .i64 z.id) ∧ w'.cell? ⟨g, 1, none⟩ = some (.int .i64 d.id))) (by kernel_rfl) (⟨x1, y1⟩) (fun hHeld => ?_)
              refine wpAnyH_take (i := 0) (v := ?_) rfl (by kernel_rfl) (by kernel_rfl) (by kernel_rfl) (fun _ _ _ h => h) (Or.inl ⟨by rfl, ?_⟩) (by assumption) ?_
              rotate_left
              · ((intro w hSw); (first | (go_simp; done) | (go_simp; with_reducible rfl)))
              (try simp only [Act.put, List.setIfInBounds_toArray, List.set_cons_zero, List.set_cons_succ, List.getElem_toArray, List.getElem_cons_succ, List.getElem_cons_zero])
              refine wpAnyH_take (i := 1) (v := ?_) rfl (by kernel_rfl) (by kernel_rfl) (by kernel_rfl) (fun _ _ _ h => h) (Or.inl ⟨by rfl, ?_⟩) (by assumption) ?_
              rotate_left
              · ((intro w hSw); (first | (go_simp; done) | (go_simp; with_reducible rfl)))
              (try simp only [Act.put, List.setIfInBounds_toArray, List.set_cons_zero, List.set_cons_succ, List.getElem_toArray, List.getElem_cons_succ, List.getElem_cons_zero])
              refine wpAnyH_take (i := 2) (v := ?_) rfl (by kernel_rfl) (by kernel_rfl) (by kernel_rfl) (fun _ _ _ h => h) (Or.inl ⟨by rfl, ?_⟩) (by assumption) ?_
              rotate_left
              · ((intro w hSw); (first | (go_simp; done) | (go_simp; with_reducible rfl)))
              (try simp only [Act.put, List.setIfInBounds_toArray, List.set_cons_zero, List.set_cons_succ, List.getElem_toArray, List.getElem_cons_succ, List.getElem_cons_zero])
              refine wpAnyH_take (i := 3) (v := ?_) rfl (by kernel_rfl) (by kernel_rfl) (by kernel_rfl) (fun _ _ _ h => h) (Or.inl ⟨by rfl, ?_⟩) (by assumption) ?_
              rotate_left
              · ((intro w hSw); (first | (go_simp; done) | (go_simp; with_reducible rfl)))
              (try simp only [Act.put, List.setIfInBounds_toArray, List.set_cons_zero, List.set_cons_succ, List.getElem_toArray, List.getElem_cons_succ, List.getElem_cons_zero])
              refine wpAnyH_take (i := 4) (v := ?_) rfl (by kernel_rfl) (by kernel_rfl) (by kernel_rfl) (fun _ _ _ h => h) (Or.inl ⟨by rfl, ?_⟩) (by assumption) ?_
              rotate_left
              · ((intro w hSw); (first | (go_simp; done) | (go_simp; with_reducible rfl)))
              (try simp only [Act.put, List.setIfInBounds_toArray, List.set_cons_zero, List.set_cons_succ, List.getElem_toArray, List.getElem_cons_succ, List.getElem_cons_zero])
              refine wpAnyH_take (i := 6) (v := ?_) rfl (by kernel_rfl) (by kernel_rfl) (by kernel_rfl) (fun _ _ _ h => h) (Or.inl ⟨by rfl, ?_⟩) (by assumption) ?_
              rotate_left
              · ((intro w hSw); (first | (go_simp; done) | (go_simp; with_reducible rfl)))
              (try simp only [Act.put, List.setIfInBounds_toArray, List.set_cons_zero, List.set_cons_succ, List.getElem_toArray, List.getElem_cons_succ, List.getElem_cons_zero])
              refine wpAnyH_take (i := 7) (v := ?_) rfl (by kernel_rfl) (by kernel_rfl) (by kernel_rfl) (fun _ _ _ h => h) (Or.inl ⟨by rfl, ?_⟩) (by assumption) ?_
              rotate_left
              · ((intro w hSw); (first | (go_simp; done) | (go_simp; with_reducible rfl)))
              (try simp only [Act.put, List.setIfInBounds_toArray, List.set_cons_zero, List.set_cons_succ, List.getElem_toArray, List.getElem_cons_succ, List.getElem_cons_zero])
              refine wpAnyH_ready (rs := [5]) (by kernel_rfl) (by simp) ?_
              refine AllReadyH.cons rfl (fun K hK => ?_) AllReadyH.nil
              go_simp
              (go_at_call 14; refine (sum_agg z.id _).mono ?_; rintro e wa ⟨rfl, hoa⟩; have HBA := Lib.hid (And.intro (HBY.out.1.frame hoa) (HBY.out.2.frame hoa)); obtain ⟨q0, q1, q2, q3⟩ := HBA.out.1; obtain ⟨p0, p1, p2, p3⟩ := HBA.out.2.box HS.out.box; clear hoa q0 q2 q3 p0 p2 p3 x1 y1 HBY)
              (try go_wp2_with fail)
              refine hK.out _ _ (⟨q1, p1⟩) (fun hHeld => ?_)
              clear hK K
              (try simp only [Act.put, List.setIfInBounds_toArray, List.set_cons_zero, List.set_cons_succ, List.getElem_toArray, List.getElem_cons_succ, List.getElem_cons_zero])
              refine wpAnyH_ready (rs := [8]) (by kernel_rfl) (by simp) ?_
              refine AllReadyH.cons rfl (fun K hK => ?_) AllReadyH.nil
              go_simp
              (go_at_call 14; refine (sum_agg d.id _).mono ?_; rintro e wb ⟨rfl, hob⟩; have HBZ := Lib.hid (And.intro (HBA.out.1.frame hob) (HBA.out.2.frame hob)); obtain ⟨x0, x1, x2, x3⟩ := HBZ.out.1; obtain ⟨y0, y1, y2, y3⟩ := HBZ.out.2.box HS.out.box; clear hob x0 x2 x3 y0 y2 y3 q1 p1 HBA)
              (try go_wp2_with fail)
              refine hK.out _ _ (⟨x1, y1⟩) (fun hHeld => ?_)
              clear hK K
              (try simp only [Act.put, List.setIfInBounds_toArray, List.set_cons_zero, List.set_cons_succ, List.getElem_toArray, List.getElem_cons_succ, List.getElem_cons_zero])
              refine wpAnyH_take (i := 9) (v := ?_) rfl (by kernel_rfl) (by kernel_rfl) (by kernel_rfl) (fun _ _ _ h => h) (Or.inl ⟨by rfl, ?_⟩) (by assumption) ?_
              rotate_left
              · ((intro w hSw); (first | (go_simp; done) | (go_simp; with_reducible rfl)))
              (try simp only [Act.put, List.setIfInBounds_toArray, List.set_cons_zero, List.set_cons_succ, List.getElem_toArray, List.getElem_cons_succ, List.getElem_cons_zero])
              refine wpAnyH_take (i := 10) (v := ?_) rfl (by kernel_rfl) (by kernel_rfl) (by kernel_rfl) (fun _ _ _ h => h) (Or.inl ⟨by rfl, ?_⟩) (by assumption) ?_
              rotate_left
              · ((intro w hSw); (first | (go_simp; done) | (go_simp; with_reducible rfl)))
              (try simp only [Act.put, List.setIfInBounds_toArray, List.set_cons_zero, List.set_cons_succ, List.getElem_toArray, List.getElem_cons_succ, List.getElem_cons_zero])
              refine wpAnyH_take (i := 11) (v := ?_) rfl (by kernel_rfl) (by kernel_rfl) (by kernel_rfl) (fun _ _ _ h => h) (Or.inl ⟨by rfl, ?_⟩) (by assumption) ?_
              rotate_left
              · ((intro w hSw); (first | (go_simp; done) | (go_simp; with_reducible rfl)))
              (try simp only [Act.put, List.setIfInBounds_toArray, List.set_cons_zero, List.set_cons_succ, List.getElem_toArray, List.getElem_cons_succ, List.getElem_cons_zero])
              refine wpAnyH_take (i := 12) (v := ?_) rfl (by kernel_rfl) (by kernel_rfl) (by kernel_rfl) (fun _ _ _ h => h) (Or.inl ⟨by rfl, ?_⟩) (by assumption) ?_
              rotate_left
              · ((intro w hSw); (first | (go_simp; done) | (go_simp; with_reducible rfl)))
              (try simp only [Act.put, List.setIfInBounds_toArray, List.set_cons_zero, List.set_cons_succ, List.getElem_toArray, List.getElem_cons_succ, List.getElem_cons_zero])
              refine wpAnyH_take (i := 13) (v := ?_) rfl (by kernel_rfl) (by kernel_rfl) (by kernel_rfl) (fun _ _ _ h => h) (Or.inl ⟨by rfl, ?_⟩) (by assumption) ?_
              rotate_left
              · ((intro w hSw); (first | (go_simp; done) | (go_simp; with_reducible rfl)))
              (try simp only [Act.put, List.setIfInBounds_toArray, List.set_cons_zero, List.set_cons_succ, List.getElem_toArray, List.getElem_cons_succ, List.getElem_cons_zero])
              refine wpAnyH_take (i := 14) (v := ?_) rfl (by kernel_rfl) (by kernel_rfl) (by kernel_rfl) (fun _ _ _ h => h) (Or.inl ⟨by rfl, ?_⟩) (by assumption) ?_
              rotate_left
              · ((intro w hSw); (first | (go_simp; done) | (go_simp; with_reducible rfl)))
              (try simp only [Act.put, List.setIfInBounds_toArray, List.set_cons_zero, List.set_cons_succ, List.getElem_toArray, List.getElem_cons_succ, List.getElem_cons_zero])
              refine wpAnyH_done (by kernel_rfl) ?_ _
              refine NoPanic.normal ?_
              obtain ⟨d0, d1, d2, d3⟩ := HBZ.out.1
              have KD := Lib.hid (HBZ.out.2.does (d := z) (by omega) HZ.out.1 HZ.out.2)
              have HSD := Lib.hid (HST.out.does (most := mostOf n) (room := roomOf r) (d := z) HC7.out (fun _ => by have := HC4.out; omega))
              unfold D.cells Ptr at KD
              clear x1 y1 HBZ HST heq c7'
              clear c4'
              go_wp2_with fail
              refine KD.out.mono ?_
              rintro e wn ⟨rfl, hmn⟩
              generalize doL (mostOf n) (roomOf r) z M = M2 at hmn HSD
              have HMN := Lib.hid hmn
              clear KD d0 d1 d2 d3
              obtain ⟨d0, d1, d2, d3⟩ := hmn.box HS.out.box
              clear hmn d0 d2 d3
              go_wp2_with fail
              refine (sum_any d.id _).mono ?_
              rintro e wo ⟨rfl, hoo⟩
              have KG := Lib.hid ((HMN.out.frame hoo).get HK.out)
              rw [getE_has HSD.out.has, HSD.out.data] at KG
              unfold Ptr at KG
              clear hoo
              go_wp2_with fail
              refine KG.out.mono ?_
              rintro e wp ⟨bo, cb, rfl, hdp, hmp, -⟩
              have KQ := Lib.hid (bytes_equal hdp (HS.out.data.frame' hmp.only) cb d.cap)
              have HMP := Lib.hid (And.intro hmp (HSD.out.of_own (own_touch_any (j := keyOf d.id))))
              clear KG d1
              obtain ⟨d0, d1, d2, d3⟩ := hmp.box HS.out.box
              clear hdp hmp d0 d1 d3
              go_wp2_with fail
              refine KQ.out.mono ?_
              rintro e wq ⟨rfl, rfl⟩
              clear KQ d2
              go_wp2
              go_roundg (es.length - (i + 1))
              case measure => omega
              case rel => exact ⟨i + 1, by go_num, Lib.hid ⟨by omega, _, HMP.out⟩⟩
          · rw [decide_eq_false ck] at heq
            have HCK := Lib.hid ck; clear ck
            go_wp2_with fail
            refine wp_region_noPanic ?_
            refine wp_region_held_drew (S := (fun w' => w'.cell? ⟨gb, 1, none⟩ = some (.int .i64 z.id) ∧ w'.cell? ⟨g, 1, none⟩ = some (.int .i64 d.id))) (by kernel_rfl) (⟨x1, y1⟩) (fun hHeld => ?_)
            refine wpAnyH_take (i := 0) (v := ?_) rfl (by kernel_rfl) (by kernel_rfl) (by kernel_rfl) (fun _ _ _ h => h) (Or.inl ⟨by rfl, ?_⟩) (by assumption) ?_
            rotate_left
            · ((intro w hSw); (first | (go_simp; done) | (go_simp; with_reducible rfl)))
            (try simp only [Act.put, List.setIfInBounds_toArray, List.set_cons_zero, List.set_cons_succ, List.getElem_toArray, List.getElem_cons_succ, List.getElem_cons_zero])
            refine wpAnyH_take (i := 1) (v := ?_) rfl (by kernel_rfl) (by kernel_rfl) (by kernel_rfl) (fun _ _ _ h => h) (Or.inl ⟨by rfl, ?_⟩) (by assumption) ?_
            rotate_left
            · ((intro w hSw); (first | (go_simp; done) | (go_simp; with_reducible rfl)))
            (try simp only [Act.put, List.setIfInBounds_toArray, List.set_cons_zero, List.set_cons_succ, List.getElem_toArray, List.getElem_cons_succ, List.getElem_cons_zero])
            refine wpAnyH_take (i := 2) (v := ?_) rfl (by kernel_rfl) (by kernel_rfl) (by kernel_rfl) (fun _ _ _ h => h) (Or.inl ⟨by rfl, ?_⟩) (by assumption) ?_
            rotate_left
            · ((intro w hSw); (first | (go_simp; done) | (go_simp; with_reducible rfl)))
            (try simp only [Act.put, List.setIfInBounds_toArray, List.set_cons_zero, List.set_cons_succ, List.getElem_toArray, List.getElem_cons_succ, List.getElem_cons_zero])
            refine wpAnyH_take (i := 3) (v := ?_) rfl (by kernel_rfl) (by kernel_rfl) (by kernel_rfl) (fun _ _ _ h => h) (Or.inl ⟨by rfl, ?_⟩) (by assumption) ?_
            rotate_left
            · ((intro w hSw); (first | (go_simp; done) | (go_simp; with_reducible rfl)))
            (try simp only [Act.put, List.setIfInBounds_toArray, List.set_cons_zero, List.set_cons_succ, List.getElem_toArray, List.getElem_cons_succ, List.getElem_cons_zero])
            refine wpAnyH_take (i := 4) (v := ?_) rfl (by kernel_rfl) (by kernel_rfl) (by kernel_rfl) (fun _ _ _ h => h) (Or.inl ⟨by rfl, ?_⟩) (by assumption) ?_
            rotate_left
            · ((intro w hSw); (first | (go_simp; done) | (go_simp; with_reducible rfl)))
            (try simp only [Act.put, List.setIfInBounds_toArray, List.set_cons_zero, List.set_cons_succ, List.getElem_toArray, List.getElem_cons_succ, List.getElem_cons_zero])
            refine wpAnyH_take (i := 6) (v := ?_) rfl (by kernel_rfl) (by kernel_rfl) (by kernel_rfl) (fun _ _ _ h => h) (Or.inl ⟨by rfl, ?_⟩) (by assumption) ?_
            rotate_left
            · ((intro w hSw); (first | (go_simp; done) | (go_simp; with_reducible rfl)))
            (try simp only [Act.put, List.setIfInBounds_toArray, List.set_cons_zero, List.set_cons_succ, List.getElem_toArray, List.getElem_cons_succ, List.getElem_cons_zero])
            refine wpAnyH_take (i := 7) (v := ?_) rfl (by kernel_rfl) (by kernel_rfl) (by kernel_rfl) (fun _ _ _ h => h) (Or.inl ⟨by rfl, ?_⟩) (by assumption) ?_
            rotate_left
            · ((intro w hSw); (first | (go_simp; done) | (go_simp; with_reducible rfl)))
            (try simp only [Act.put, List.setIfInBounds_toArray, List.set_cons_zero, List.set_cons_succ, List.getElem_toArray, List.getElem_cons_succ, List.getElem_cons_zero])
            refine wpAnyH_ready (rs := [5]) (by kernel_rfl) (by simp) ?_
            refine AllReadyH.cons rfl (fun K hK => ?_) AllReadyH.nil
            go_simp
            (go_at_call 14; refine (sum_agg z.id _).mono ?_; rintro e wa ⟨rfl, hoa⟩; have HBA := Lib.hid (And.intro (HBY.out.1.frame hoa) (HBY.out.2.frame hoa)); obtain ⟨q0, q1, q2, q3⟩ := HBA.out.1; obtain ⟨p0, p1, p2, p3⟩ := HBA.out.2.box HS.out.box; clear hoa q0 q2 q3 p0 p2 p3 x1 y1 HBY)
            (try go_wp2_with fail)
            refine hK.out _ _ (⟨q1, p1⟩) (fun hHeld => ?_)
            clear hK K
            (try simp only [Act.put, List.setIfInBounds_toArray, List.set_cons_zero, List.set_cons_succ, List.getElem_toArray, List.getElem_cons_succ, List.getElem_cons_zero])
            refine wpAnyH_ready (rs := [8]) (by kernel_rfl) (by simp) ?_
            refine AllReadyH.cons rfl (fun K hK => ?_) AllReadyH.nil
            go_simp
            (go_at_call 14; refine (sum_agg d.id _).mono ?_; rintro e wb ⟨rfl, hob⟩; have HBZ := Lib.hid (And.intro (HBA.out.1.frame hob) (HBA.out.2.frame hob)); obtain ⟨x0, x1, x2, x3⟩ := HBZ.out.1; obtain ⟨y0, y1, y2, y3⟩ := HBZ.out.2.box HS.out.box; clear hob x0 x2 x3 y0 y2 y3 q1 p1 HBA)
            (try go_wp2_with fail)
            refine hK.out _ _ (⟨x1, y1⟩) (fun hHeld => ?_)
            clear hK K
            (try simp only [Act.put, List.setIfInBounds_toArray, List.set_cons_zero, List.set_cons_succ, List.getElem_toArray, List.getElem_cons_succ, List.getElem_cons_zero])
            refine wpAnyH_take (i := 9) (v := ?_) rfl (by kernel_rfl) (by kernel_rfl) (by kernel_rfl) (fun _ _ _ h => h) (Or.inl ⟨by rfl, ?_⟩) (by assumption) ?_
            rotate_left
            · ((intro w hSw); (first | (go_simp; done) | (go_simp; with_reducible rfl)))
            (try simp only [Act.put, List.setIfInBounds_toArray, List.set_cons_zero, List.set_cons_succ, List.getElem_toArray, List.getElem_cons_succ, List.getElem_cons_zero])
            refine wpAnyH_take (i := 10) (v := ?_) rfl (by kernel_rfl) (by kernel_rfl) (by kernel_rfl) (fun _ _ _ h => h) (Or.inl ⟨by rfl, ?_⟩) (by assumption) ?_
            rotate_left
            · ((intro w hSw); (first | (go_simp; done) | (go_simp; with_reducible rfl)))
            (try simp only [Act.put, List.setIfInBounds_toArray, List.set_cons_zero, List.set_cons_succ, List.getElem_toArray, List.getElem_cons_succ, List.getElem_cons_zero])
            refine wpAnyH_take (i := 11) (v := undef) rfl (by kernel_rfl) (by kernel_rfl) (by kernel_rfl) (fun _ _ _ h => h) (Or.inr ⟨by rfl, rfl⟩) (by assumption) ?_
            (try simp only [Act.put, List.setIfInBounds_toArray, List.set_cons_zero, List.set_cons_succ, List.getElem_toArray, List.getElem_cons_succ, List.getElem_cons_zero])
            refine wpAnyH_take (i := 12) (v := undef) rfl (by kernel_rfl) (by kernel_rfl) (by kernel_rfl) (fun _ _ _ h => h) (Or.inr ⟨by rfl, rfl⟩) (by assumption) ?_
            (try simp only [Act.put, List.setIfInBounds_toArray, List.set_cons_zero, List.set_cons_succ, List.getElem_toArray, List.getElem_cons_succ, List.getElem_cons_zero])
            refine wpAnyH_take (i := 13) (v := ?_) rfl (by kernel_rfl) (by kernel_rfl) (by kernel_rfl) (fun _ _ _ h => h) (Or.inl ⟨by rfl, ?_⟩) (by assumption) ?_
            rotate_left
            · ((intro w hSw); (first | (go_simp; done) | (go_simp; with_reducible rfl)))
            (try simp only [Act.put, List.setIfInBounds_toArray, List.set_cons_zero, List.set_cons_succ, List.getElem_toArray, List.getElem_cons_succ, List.getElem_cons_zero])
            refine wpAnyH_take (i := 14) (v := ?_) rfl (by kernel_rfl) (by kernel_rfl) (by kernel_rfl) (fun _ _ _ h => h) (Or.inl ⟨by rfl, ?_⟩) (by assumption) ?_
            rotate_left
            · ((intro w hSw); (first | (go_simp; done) | (go_simp; with_reducible rfl)))
            (try simp only [Act.put, List.setIfInBounds_toArray, List.set_cons_zero, List.set_cons_succ, List.getElem_toArray, List.getElem_cons_succ, List.getElem_cons_zero])
            refine wpAnyH_done (by kernel_rfl) ?_ _
            refine NoPanic.normal ?_
            obtain ⟨d0, d1, d2, d3⟩ := HBZ.out.1
            have KD := Lib.hid (HBZ.out.2.does (d := z) (by omega) HZ.out.1 HZ.out.2)
            have HSD := Lib.hid (HST.out.does (most := mostOf n) (room := roomOf r) (d := z) HC7.out (fun h => absurd h HCK.out))
            unfold D.cells Ptr at KD
            clear x1 y1 HBZ HST heq c7'
            skip
            go_wp2_with fail
            refine KD.out.mono ?_
            rintro e wn ⟨rfl, hmn⟩
            generalize doL (mostOf n) (roomOf r) z M = M2 at hmn HSD
            have HMN := Lib.hid hmn
            clear KD d0 d1 d2 d3
            obtain ⟨d0, d1, d2, d3⟩ := hmn.box HS.out.box
            clear hmn d0 d2 d3
            go_wp2_with fail
            refine (sum_any d.id _).mono ?_
            rintro e wo ⟨rfl, hoo⟩
            have KG := Lib.hid ((HMN.out.frame hoo).get HK.out)
            rw [getE_has HSD.out.has, HSD.out.data] at KG
            unfold Ptr at KG
            clear hoo
            go_wp2_with fail
            refine KG.out.mono ?_
            rintro e wp ⟨bo, cb, rfl, hdp, hmp, -⟩
            have KQ := Lib.hid (bytes_equal hdp (HS.out.data.frame' hmp.only) cb d.cap)
            have HMP := Lib.hid (And.intro hmp (HSD.out.of_own (own_touch_any (j := keyOf d.id))))
            clear KG d1
            obtain ⟨d0, d1, d2, d3⟩ := hmp.box HS.out.box
            clear hdp hmp d0 d1 d3
            go_wp2_with fail
            refine KQ.out.mono ?_
            rintro e wq ⟨rfl, rfl⟩
            clear KQ d2
            go_wp2
            go_roundg (es.length - (i + 1))
            case measure => omega
            case rel => exact ⟨i + 1, by go_num, Lib.hid ⟨by omega, _, HMP.out⟩⟩
      · have hi' : ¬ (i : Int) < (es.length : Int) := by omega
        have HOF := Lib.hid (HS.out.only.trans hmM.only)
        clear hmM hsM HM6
        go_wp2_with fail
        refine (HAW.out _).mono ?_
        rintro e w4 ⟨rfl, ho⟩
        have HO4 := Lib.hid (HOF.out.trans ho); clear ho
        go_wp2
        go_ret
        exact ⟨rfl, HO4.out⟩
end Go.Proofs.Ytafeiankpckijaa
