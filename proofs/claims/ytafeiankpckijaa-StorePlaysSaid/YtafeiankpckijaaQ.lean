/- The walk of Put: a new digest, and room. -/
import Derived.Test.YtafeiankpckijaaQ0
import Derived.Test.YtafeiankpckijaaI
namespace Go.Proofs.Ytafeiankpckijaa
open Go.RowKit
set_option linter.unusedSimpArgs false
set_option linter.unusedVariables false
attribute [local go_sem ↓] Go.wp_at_zero Go.wp_at_succ
theorem quiet_len {P : Program} {C : World → Prop} {a : Act} {o : Oper} {K : Act → Prop} (x : Operand) (tm ty : TypeId) (ho : o.op = .call { callee := .builtin .len, args := #[x], argTypes := #[tm] }) (ht : o.type = ty) {m v : Value} (hx : a.eval x = m)
    (h : ∀ w, C w → (Builtin.len_ #[tm] ty #[m]).run P w = .ok v w) (hk : K (a.put o.dst v)) : o.quiet P a C K :=
  ⟨v, fun w hw => by unfold Oper.quietAt execOp; simp only [ho, ht, resolve, invoke, builtin, Sem.run_bind, Sem.run_pure, Result.andThen_ok, List.map_toArray, List.map_cons, List.map_nil, hx, h w hw]; exact ⟨rfl, rfl⟩, hk⟩
section
variable {P : Program} {w : World}
theorem step_store_whole {ops : Array Oper} {op : Oper} {a : Act} {K : Act → World → Prop} {Q : Exit → Act → World → Prop} {E : Prop} (hgd : op.guard = none) (ty : TypeId) (x y : Operand) (ho : op.op = .store ty x y)
    (b o : Nat) (cells : Array Value) (hx : a.eval x = .pointer (some ⟨b, o, none⟩)) (hy : a.eval y = .agg cells)
    (ht : w.there b o cells.size) (hi : (P.info? ty).map (·.size) = some cells.size) (h1 : cells.all (·.oneCell') = true)
    (h : ∀ w2, w2 = w.setCells b o cells.toList → K (a.put op.dst undef) w2) :
    if Region.wanted op (yielded ops a.tmps) = true then Oper.wp P op a w K Q else E := by
  have hw : Region.wanted op (yielded ops a.tmps) = true := by simp [Region.wanted, hgd]
  rw [if_pos hw]
  exact wp_store_mid ty x y ho b o cells hx hy ht hi h1 (h _ rfl)
theorem wpList_mapUpdate {ops : Array Oper} {rest : List Oper} {op : Oper} {a : Act} {Q : Exit → Act → World → Prop} (hgd : op.guard = none) (ty : TypeId) (x y z : Operand) (ho : op.op = .mapUpdate ty x y z)
    (m k v : Value) (hx : a.eval x = m) (hy : a.eval y = k) (hz : a.eval z = v) (W : World) (hr : (Instr.mapUpdate ty m k v).run P w = .ok () W)
    (h : ∀ w2, w2 = W → wpList P ops Q rest (a.put op.dst undef) w2) : wpList P ops Q (op :: rest) a w :=
  wpList_plain hgd fun _ hK => by
    unfold Oper.wp execOp
    simp only [ho, hx, hy, hz, Sem.run_bind, hr, Sem.run_pure, Result.andThen_ok]
    exact hK _ _ (h _ rfl)
end
theorem build75 (k bl bc : Nat) (bo : Option Addr) (w : World) : (Instr.build 75 #[(0, .agg (sumC k).toArray), (1, .slice bo bl bc)]).run Try.prog w = .ok (.agg (sumC k ++ [Value.slice bo bl bc, .int .i64 0, .int .i64 0, .int .i64 0]).toArray) w :=
  run_build w 75 _ _ (by kernel_rfl)
def bldN (t : TypeId) (ps : Array (Nat × Value)) : Sem Value := Instr.build t ps
theorem bldN_eq (t : TypeId) (ps : Array (Nat × Value)) : Instr.build t ps = bldN t ps := rfl
theorem build75n (k bl bc : Nat) (bo : Option Addr) (w : World) : (bldN 75 #[(0, .agg (sumC k).toArray), (1, .slice bo bl bc)]).run Try.prog w = .ok (.agg (sumC k ++ [Value.slice bo bl bc, .int .i64 0, .int .i64 0, .int .i64 0]).toArray) w := build75 k bl bc bo w
attribute [local go_sem ↓ high] bldN_eq
attribute [local go_sem] build75n
theorem slot_one (k bl bc : Nat) (bo : Option Addr) : ∀ v ∈ sumC k ++ [Value.slice bo bl bc, .int .i64 0, .int .i64 0, .int .i64 0], v.oneCell' = true := by
  intro v hv
  rcases List.mem_append.1 hv with hv | hv
  · obtain ⟨n, rfl, _⟩ := (sumC_ok k).2 v hv; rfl
  · simp at hv; rcases hv with rfl | rfl <;> rfl
theorem run_lay {w : World} {gs x k bl bc : Nat} {bo : Option Addr} (ht : w.there gs (x * 36) 36) : (storeCells ⟨gs, x * 36, none⟩ (sumC k ++ [Value.slice bo bl bc, .int .i64 0, .int .i64 0, .int .i64 0]) 0).run Try.prog w = .ok () (w.setCells gs (x * 36) (sumC k ++ [Value.slice bo bl bc, .int .i64 0, .int .i64 0, .int .i64 0])) := by
  have hl : (sumC k ++ [Value.slice bo bl bc, .int .i64 0, .int .i64 0, .int .i64 0]).length = 36 := by simp [sumC_len]
  have := run_storeCells_cells (P := Try.prog) gs (x * 36) (sumC k ++ [Value.slice bo bl bc, .int .i64 0, .int .i64 0, .int .i64 0]) 0 w (fun j hj => by simpa using (ht j (by omega)).1) (fun j hj => by simpa using (ht j (by omega)).2) (slot_one k bl bc bo)
  simpa using this
theorem seek_none_of {k : Nat} : ∀ {E : List (Nat × Nat)} {s : Nat}, (∀ p ∈ E, p.1 ≠ k) → seek k E s = none
  | [], _, _ => rfl
  | p :: E, s, h => by
    unfold seek
    rw [if_neg (fun e => h p (by simp) e.symm)]
    exact seek_none_of (fun q hq => h q (List.mem_cons_of_mem _ hq))
theorem Good.seek_none {w : World} {a : Nat} {F : Nat → Prop} {c : C} {ord : List Nat} {E : List (Nat × Nat)} {ch : Nat → Chunk} (h : Good w a F c ord E ch) {k : Nat} (hk : ∀ i ∈ ord, (ch i).key ≠ k) : seek k E 0 = none :=
  seek_none_of fun p hp => by obtain ⟨h1, h2⟩ := h.emem p hp; rw [← h2]; exact hk _ h1
structure PutAt (c : C) (ord : List Nat) (ch : Nat → Chunk) (k n : Nat) (c' : C) (ord' : List Nat) : Prop where
  nn : c'.n = c.n
  room : c'.room = c.room
  hn : hN (ord'.map ch) < c.n
  hb : (hB (ord'.map ch) + n : Int) ≤ c.room
  trim : trim c.n c.room n (ord'.map ch) = trim c.n c.room n (ord.map ch)
  key : ∀ i ∈ ord', (ch i).key ≠ k
set_option maxRecDepth 100000 in
set_option maxHeartbeats 4000000 in
theorem put_no (w : World) (a : Nat) (F : Nat → Prop) (c : C) (ord : List Nat) (E : List (Nat × Nat)) (ch : Nat → Chunk) (k : Nat) (hk : k < 65536) (h : Good w a F c ord E ch) (hs : seek k E 0 = none) (ao : Option Addr) (b : List Int) (cap : Nat)
    (hby : DataAt w (fun y => ¬ F y) ao b) (hbl : b.length ≤ 1000000) (hf1 : heldN c ord < c.n) (hf2 : (heldB c ord + b.length : Int) ≤ c.room) :
    Calls Try.prog 17 #[.pointer (some ⟨a, 0, none⟩), .agg (sumC k).toArray, .slice ao b.length cap] w fun e w' => e = .returned (.int .i64 0) ∧ ∃ F' c' ord' E' ch', Good w' a F' c' ord' E' ch' ∧ ord'.map ch' = trim c.n c.room b.length (ord.map ch) ++ [⟨k, b, 0⟩] ∧
      c'.n = c.n ∧ c'.room = c.room ∧ (∀ y, F y → F' y) ∧ (∀ y, F' y → F y ∨ w.heap.size ≤ y) ∧ Only F w w' := by
  have HBY := Lib.hid hby; clear hby
  have HF0 := Lib.hid (⟨rfl, rfl, by rw [← heldN_eq h.pins]; exact hf1, by rw [← heldB_eq h.pins h.len]; exact hf2, rfl, h.find_no hs⟩ : PutAt c ord ch k b.length c ord)
  have h4 := h.mem.cat
  have hw := h.mem.lt_a
  have hne : w.heap.size ≠ a := by omega
  have K1 := Lib.hid (made_any a c.gm (w.alloc (.cells (sumC k).toArray 38)) (h.mem.alloc _).cat)
  have hlk : ∀ w', (∃ n, w' = (w.alloc (.cells (sumC k).toArray 38)).drewN n) → (Instr.lookup 30 (.map (some c.gm)) (.agg (sumC k).toArray) true).run Try.prog w' = .ok (.tuple #[.int .i64 0, .bool false]) w' := by
    rintro _ ⟨n, rfl⟩
    have := lookup_run _ hk ((h.mem.alloc (.cells (sumC k).toArray 38)).drewN n).map h.ents h.elt
    rw [hs] at this; exact this
  have hld : ∀ w', (∃ n, w' = (w.alloc (.cells (sumC k).toArray 38)).drewN n) → (Instr.loadAt 38 (.pointer (some ⟨w.heap.size, 0, none⟩))).run Try.prog w' = .ok (.agg (sumC k).toArray) w' := by
    rintro _ ⟨n, rfl⟩
    simp only [Instr.loadAt, Instr.sureAddr, Sem.run_bind, Sem.run_pure, Result.andThen_ok]
    exact run_loadVar_row _ _ 38 38 _ (0, 0) (.array 32 5) (heap_alloc_new _ _) under38 rfl (by rw [info38]; simp [sumC_len])
  have HOL := Lib.hid (fun n => ((Only.refl (fun _ => False) w).alloc (.cells (sumC k).toArray 38)).drewN n)
  have HBX := Lib.hid (fun n => show ((w.alloc (.cells (sumC k).toArray 38)).drewN n).heap[w.heap.size]? = some (.cells (sumC k).toArray 38 (0, 0)) from heap_alloc_new _ _)
  have HLK := Lib.hid hlk; clear hlk
  have HLD := Lib.hid hld; clear hld
  have HS := Lib.hid hs; clear hs
  have H := Lib.hid h; clear h
  go_enter Try.func17, Try.ntmps17
  go_wp2_with fail
  refine K1.out.mono ?_
  rintro e w1 ⟨rfl, rfl⟩
  go_wp2_with fail
  refine wp_region_quiet_lit (by kernel_rfl) (by kernel_rfl) ?_
  repeat (first | (go_big_quiet_want; refine quiet_load 38 _ rfl HLD.out ?_; go_frame; go_big_quiet_on) | (go_big_quiet_want; refine quiet_lookup 30 _ _ true rfl HLK.out ?_; go_frame; go_big_quiet_on) | go_big_quiet_step (fail))
  refine wpQuiet_nil ?_
  intro _ hw'
  obtain ⟨nq, rfl⟩ := hw'
  have ho2 := HOL.out nq
  have hbx := HBX.out nq
  have hsz : ((w.alloc (.cells (sumC k).toArray 38)).drewN nq).heap.size = w.heap.size + 1 := by simp
  generalize (w.alloc (.cells (sumC k).toArray 38)).drewN nq = w2 at *
  clear HOL HBX HLK HLD K1
  have HO := Lib.hid ho2; clear ho2
  have HB := Lib.hid hbx; clear hbx
  have HZ := Lib.hid hsz; clear hsz
  have hg2 := H.out.only HO.out (fun _ _ h => h)
  have KH := Lib.hid (held_any w2 a c ord hg2.mem hg2.link (by have := hg2.fits; have := hg2.room.2; omega) (by have := hg2.flen; have := hg2.n64; omega))
  have h5 := hg2.mem.cmost
  rw [hg2.most] at h5
  have h6 := hg2.mem.croom
  obtain ⟨q2a, q2b⟩ := hg2.room
  have q4 : heldB c ord ≤ 1000000 := by omega
  have HG2 := Lib.hid hg2; clear hg2
  go_wp2_with fail
  refine KH.out.mono ?_
  rintro e w3 ⟨rfl, rfl⟩
  have hd1 : decide (c.n ≤ heldN c ord) = false := by simp; omega
  have hd2 : decide (c.room - (heldB c ord : Nat) < (b.length : Int)) = false := by simp; omega
  go_wp2_with fail
  clear hd1 hd2 h5 h6 h4 hne KH hf1 hf2
  go_loopg [] ord.length (fun g wl => Hid (∃ c' ord' E', ord'.length = g ∧ Good wl a F c' ord' E' ch ∧ Only F w2 wl ∧ PutAt c ord ch k b.length c' ord'))
  case atStart => exact Lib.hid ⟨c, ord, E, rfl, HG2.out, Only.refl _ _, HF0.out⟩
  case round =>
    obtain ⟨c', ord', E', hgk, hgl, hol, hpa⟩ := hrel.out
    clear hrel
    subst hgk
    have e1 : c'.es.size = ord'.length := by rw [hgl.ents.length, hgl.elen]
    have hln : ∀ w', (∃ n, w' = wr.drewN n) → (Builtin.len_ #[30] 3 #[.map (some c'.gm)]).run Try.prog w' = .ok (.int .i64 ord'.length) w' := by
      rintro _ ⟨n, rfl⟩
      unfold Builtin.len_
      simp [run_getMap (wr.drewN n) (hgl.mem.drewN n).map, e1, goInt]
    have c4 := hgl.mem.cat
    have c5 := hgl.mem.cmost
    rw [hgl.most, hpa.nn] at c5
    have c6 := hgl.mem.croom
    rw [hpa.room] at c6
    have c7 := hgl.mem.cbytes
    rw [hgl.bytes] at c7
    have q5 := hgl.fits
    rw [hpa.room] at q5
    have HGL := Lib.hid hgl; clear hgl
    have HOL := Lib.hid hol; clear hol
    have HPA := Lib.hid hpa; clear hpa
    have q6 := sumB_eq HGL.out.len
    have HQ6 := Lib.hid q6; clear q6
    clear e1
    have HLN := Lib.hid hln; clear hln
    by_cases t1 : over c.n c.room b.length (ord'.map ch) = true
    · rcases loose_split ch ord' with ⟨z1, z2⟩ | ⟨l, i, r, z1, z2, z3, z4, z5, z6⟩
      · exfalso
        have y1 := HPA.out.hn
        have y2 := HPA.out.hb
        simp only [over, Bool.or_eq_true, decide_eq_true_eq, List.length_map] at t1
        omega
      have Z := Lib.hid (And.intro z1 (And.intro z2 (And.intro z3 (And.intro z4 (And.intro z5 z6))))); clear z1 z2 z3 z4 z5 z6 
      have T := Lib.hid t1
      have w1 : decide (c.n ≤ ord'.length) = true ∨ (decide (c.n ≤ ord'.length) = false ∧ decide (c.room - (sumB c' ord' : Nat) < (b.length : Int)) = true) := by
        simp only [over, Bool.or_eq_true, decide_eq_true_eq, List.length_map] at t1
        rw [← HQ6.out] at t1
        by_cases e : c.n ≤ ord'.length
        · left; simp [e]
        · right; simp [e]; omega
      clear t1
      rcases w1 with w1 | ⟨w1, w2'⟩
      all_goals
        go_wp2_with fail
        refine wp_region_quiet_lit (by kernel_rfl) (by kernel_rfl) ?_
        repeat (first | (go_big_quiet_want; refine quiet_len (.tmp 60) 30 3 rfl rfl (by rfl) HLN.out ?_; go_frame; go_big_quiet_on) | go_big_quiet_step (fail))
        refine wpQuiet_nil ?_
        intro _ hw'
        obtain ⟨nq, rfl⟩ := hw'
        have hgq := HGL.out.frame (w' := wr.drewN nq) (fun _ _ => rfl) (Nat.le_refl _)
        have hoq := HOL.out.drewN nq
        generalize wr.drewN nq = wq at *
        clear c4 c5 c6 c7 HLN w1
        obtain ⟨z1, z2, z3, z4, z5, z6⟩ := Z.out
        have hlo := loose_any wq a c' ord' hgq.mem hgq.link
        rw [show looseI c' ord' = i by rw [z1]; exact looseI_split (by rw [← z1]; exact HGL.out.pins) z2 z3] at hlo
        have KL := Lib.hid hlo
        have KR := Lib.hid (remove_good wq a F c' l r i E' ch (z1 ▸ hgq))
        have HGQ := Lib.hid hgq
        have HOQ := Lib.hid hoq
        clear hlo z1 z2 z3 z4 z5 z6 hgq hoq
        go_wp2_with fail
        refine KL.out.mono ?_
        rintro e wl ⟨rfl, rfl⟩
        go_wp2_with fail
        refine KR.out.mono ?_
        rintro e wl2 ⟨rfl, c'', E'', hg2, n2, r2, ho2⟩
        have hg2 := Lib.hid hg2
        have n2 := Lib.hid n2
        have r2 := Lib.hid r2
        have ho2 := Lib.hid ho2
        go_wp2_with fail
        go_roundg (l ++ r).length
        case measure => have h1 := congrArg List.length Z.out.1; simp at h1 ⊢; omega
        case rel =>
          obtain ⟨z1, z2, z3, z4, z5, z6⟩ := Z.out
          exact Lib.hid ⟨c'', l ++ r, E'', rfl, hg2.out, HOQ.out.trans ho2.out, n2.out.trans HPA.out.nn, r2.out.trans HPA.out.room, by rw [z5]; exact HPA.out.hn, by rw [z6]; exact HPA.out.hb,
            by rw [← HPA.out.trim, trim_step T.out (by rw [z4, z1]; simp; omega), z4], fun i hi => HPA.out.key i (by rw [z1]; rcases List.mem_append.1 hi with hi | hi <;> simp [hi])⟩
    · have T := Lib.hid t1
      have w1 : decide (c.n ≤ ord'.length) = false ∧ decide (c.room - (sumB c' ord' : Nat) < (b.length : Int)) = false := by
        simp only [over, Bool.or_eq_true, decide_eq_true_eq, List.length_map] at t1
        rw [← HQ6.out] at t1
        simp; omega
      clear t1
      obtain ⟨w1, w2'⟩ := w1
      go_wp2_with fail
      refine wp_region_quiet_lit (by kernel_rfl) (by kernel_rfl) ?_
      repeat (first | (go_big_quiet_want; refine quiet_len (.tmp 60) 30 3 rfl rfl (by rfl) HLN.out ?_; go_frame; go_big_quiet_on) | go_big_quiet_step (fail))
      refine wpQuiet_nil ?_
      intro _ hw'
      obtain ⟨nq, rfl⟩ := hw'
      have hgq := HGL.out.frame (w' := wr.drewN nq) (fun _ _ => rfl) (Nat.le_refl _)
      have hoq := HOL.out.drewN nq
      generalize wr.drewN nq = wq at *
      clear c4 c5 c6 c7 HLN w1 w2'
      have hov : over c.n c.room b.length (ord'.map ch) = false := by simpa using T.out
      have htr := HPA.out.trim
      rw [trim_end hov] at htr
      have hlt : ord'.length < c.n ∧ (sumB c' ord' + b.length : Int) ≤ c'.room := by
        simp only [over, Bool.or_eq_false_iff, decide_eq_false_iff_not, List.length_map] at hov
        rw [← HQ6.out] at hov
        rw [HPA.out.room]; omega
      obtain ⟨m, hnf⟩ : ∃ m, c'.nf = m + 1 := ⟨c'.nf - 1, by have := hgq.flen; have := HPA.out.nn; omega⟩
      have hm0 := hgq.mem
      have hbx : wq.heap[w.heap.size]? = some (.cells (sumC k).toArray 38 (0, 0)) := (hoq.block _ (by rw [HZ.out]; omega) (fun hf => absurd (H.out.low _ hf) (by omega))).trans HB.out
      have hxx := hgq.flt m (by omega)
      have hxn := hxx.1
      have c1 := hm0.cfree
      rw [hnf] at c1
      have c2 := hm0.free m (by omega)
      have hs' := hgq.seek_none HPA.out.key
      have HTR := Lib.hid htr; clear htr hov
      have HLT := Lib.hid hlt; clear hlt
      have HNF := Lib.hid hnf; clear hnf
      have HM0 := Lib.hid hm0; clear hm0
      have HBX := Lib.hid hbx; clear hbx
      have HGQ := Lib.hid hgq; clear hgq
      have HOQ := Lib.hid hoq; clear hoq
      have HXX := Lib.hid hxx; clear hxx
      have HS' := Lib.hid hs'; clear hs'
      clear T HQ6 HGL HOL HG2
      have b0 : (0 : Int) ≤ m := by omega
      have hm64 : m ≤ 64 := by have h1 := HGQ.out.flen; have h2 := HGQ.out.n64; have h3 := HNF.out; omega
      have bn : (m : Int) < (m : Int) + 1 := by omega
      go_wp2_with fail
      refine wp_region_quiet_lit (by kernel_rfl) (by kernel_rfl) ?_
      repeat go_big_quiet_step (fail)
      refine wpQuiet_nil ?_
      intro _ hw'
      obtain ⟨nq2, rfl⟩ := hw'
      have hgp := HGQ.out.frame (w' := wq.drewN nq2) (fun _ _ => rfl) (Nat.le_refl _)
      have hop := HOQ.out.drewN nq2
      have hbx2 : (wq.drewN nq2).heap[w.heap.size]? = some (.cells (sumC k).toArray 38 (0, 0)) := HBX.out
      clear c1 c2 HBX HGQ HOQ HM0
      generalize wq.drewN nq2 = wp at *
      have hfa := hgp.mem.fa 1
      have c1 := hgp.mem.cfree
      rw [HNF.out] at c1
      have hcf : m + 1 ≤ c'.capf := by have h1 := hgp.mem.capf; have h2 := HNF.out; omega
      have hcf' : m ≤ c'.capf := by omega
      have hcm : c'.capf ≤ maxLen := hgp.mem.capm
      generalize hx : c'.free m = x at *
      have HX := Lib.hid hx; clear hx
      have HGP := Lib.hid hgp; clear hgp
      have HOP := Lib.hid hop; clear hop
      have HBX := Lib.hid hbx2; clear hbx2
      go_wp2_with fail
      refine region_tail 17 (by kernel_rfl) (by kernel_rfl) ?_
      simp only [List.take_succ_cons, List.take_zero, List.drop_succ_cons, List.drop_zero]
      repeat go_big_quiet_step (fail)
      refine wpQuiet_nil ?_
      go_wp2_with fail
      have hm1 : Mem (wp.setCell ⟨a, 1, none⟩ (.slice (some ⟨c'.gf, 0, none⟩) m c'.capf)).drew a { c' with nf := c'.nf - 1 } := by
        have := (HGP.out.mem.setPop m (by rw [HNF.out]; omega)).drew
        rwa [show c'.nf - 1 = m by rw [HNF.out]; rfl]
      have ho1 := ((Only.refl (Four a c') wp).setCell (p := ⟨a, 1, none⟩) (Or.inl (Or.inl rfl)) (.slice (some ⟨c'.gf, 0, none⟩) m c'.capf)).drew
      generalize (wp.setCell ⟨a, 1, none⟩ (.slice (some ⟨c'.gf, 0, none⟩) m c'.capf)).drew = ws at *
      have c0 : ws.cell? ⟨a, 0, none⟩ = some (.slice (some ⟨c'.gs, 0, none⟩) c'.n c'.caps) := hm1.cslots
      have hn4 : ¬ Four a c' w.heap.size := fun hf => absurd (H.out.low _ (HGP.out.own _ hf)) (by omega)
      have hlw : w.heap.size < wp.heap.size := by have h1 := HOP.out.size; rw [HZ.out] at h1; omega
      have hb1 : ws.heap[w.heap.size]? = some (.cells (sumC k).toArray 38 (0, 0)) := (ho1.block _ hlw hn4).trans HBX.out
      have hr1 : ws.rangeAt w.heap.size 0 (sumC k) := fun j v hj => by rw [cell_of_row _ _ _ _ _ _ hb1]; simpa using hj
      have hby1 : Bytes ws ao b := fun j hj => by
        obtain ⟨ad, h1, h2, h3⟩ := HBY.out j hj
        have h4 : ¬ F (ad.add j).block := by rw [add_block]; exact h3
        exact ⟨ad, h1, ho1.cell (HOP.out.cell (HO.out.cell h2 (fun h => h)) h4) (fun hf => h4 (HGP.out.own _ hf))⟩
      have KC := Lib.hid (clone_any ao b cap ws.drew (by omega) hby1)
      have hi38 : (Try.prog.info? 38).map (·.size) = some (sumC k).length := by rw [info38, sumC_len]
      have hlen := sumC_len k
      have hu38 := under38
      have x0 : (0 : Int) ≤ x := by omega
      have x1 : (x : Int) < c'.n := by omega
      have HM1 := Lib.hid hm1; clear hm1
      have HO1 := Lib.hid ho1; clear ho1
      have HN4 := Lib.hid hn4; clear hn4
      clear hb1 hby1 c1 hfa hcf hcf' hcm
      have d0 : ws.drew.cell? ⟨a, 0, none⟩ = some (.slice (some ⟨c'.gs, 0, none⟩) c'.n c'.caps) := c0
      have dr1 : ws.drew.rangeAt w.heap.size 0 (sumC k) := hr1
      go_region_held3 (fun w' => w'.cell? ⟨a, 0, none⟩ = some (.slice (some ⟨c'.gs, 0, none⟩) c'.n c'.caps) ∧ w'.rangeAt w.heap.size 0 (sumC k)) (first | with_reducible exact ⟨d0, dr1⟩ | with_reducible exact ⟨c05, hr5⟩ | with_reducible exact ⟨h6c, h6r⟩) (first
        | (go_at_call 29; refine KC.out.mono ?_; rintro e w5 ⟨bo, cb, rfl, hd5, ho5⟩; have hm5 := HM1.out.drew.only ho5; have c05 : w5.cell? ⟨a, 0, none⟩ = some (.slice (some ⟨c'.gs, 0, none⟩) c'.n c'.caps) := hm5.cslots; have hr5 : w5.rangeAt w.heap.size 0 (sumC k) := fun j v hj => ho5.cell (hr1 j v hj) (fun h => h);
            have st5 := run_lay (k := k) (bl := b.length) (bc := cb) (bo := bo) (hm5.thereSlot (i := x) hxn);
            have hm6 := Mem.lay (k := k) (x := x) (bl := b.length) (bc := cb) (bo := bo) hm5 hxn;
            have ho6 : Only (fun k => k = c'.gs) w5 (w5.setCells c'.gs (x * 36) (sumC k ++ [.slice bo b.length cb, .int .i64 0, .int .i64 0, .int .i64 0])) := hm5.onlyWhole (F := fun k => k = c'.gs) rfl hxn (by simp [sumC_len]);
            have h6c : (w5.setCells c'.gs (x * 36) (sumC k ++ [.slice bo b.length cb, .int .i64 0, .int .i64 0, .int .i64 0])).cell? ⟨a, 0, none⟩ = some (.slice (some ⟨c'.gs, 0, none⟩) c'.n c'.caps) := hm6.cslots;
            have h6r : (w5.setCells c'.gs (x * 36) (sumC k ++ [.slice bo b.length cb, .int .i64 0, .int .i64 0, .int .i64 0])).rangeAt w.heap.size 0 (sumC k) := fun j v hj => ho6.cell (hr5 j v hj) (fun h => HN4.out (Or.inr (Or.inl h)));
            have HM6 := Lib.hid hm6; have HD5 := Lib.hid hd5; have HO5 := Lib.hid ho5; have HO6 := Lib.hid ho6; clear hm5 hd5 ho5 hm6 ho6))
      generalize w5.setCells c'.gs (x * 36) (sumC k ++ [Value.slice bo b.length cb, .int .i64 0, .int .i64 0, .int .i64 0]) = w6 at *
      clear st5 h6c c05 hr5 d0 dr1 c0 hr1 KC hlen
      have hld6 : ∀ w', w' = w6.drew → (Instr.loadAt 38 (.pointer (some ⟨w.heap.size, 0, none⟩))).run Try.prog w' = .ok (.agg (sumC k).toArray) w' := by
        rintro _ rfl
        exact run_loadAt_mid _ _ _ 38 _ _ h6r hu38 rfl hi38
      have HLD6 := Lib.hid hld6; clear hld6
      have c64 : w6.cell? ⟨a, 4, none⟩ = some (.map (some c'.gm)) := HM6.out.cat
      have HU := Lib.hid (mapUpdate_run w6.drew hk HM6.out.drew.map HGP.out.ents HGP.out.elt HS'.out (.int .i64 x))
      go_wp2_with fail
      refine region_tail 6 (by kernel_rfl) (by kernel_rfl) ?_
      simp only [List.take_succ_cons, List.take_zero, List.drop_succ_cons, List.drop_zero]
      repeat (first | (go_big_quiet_want; refine quiet_load 38 _ rfl HLD6.out ?_; go_frame; go_big_quiet_on) | go_big_quiet_step (fail))
      refine wpQuiet_nil ?_
      refine wpList_mapUpdate rfl 30 (.tmp 130) (.tmp 131) (.tmp 132) rfl _ _ _ (by rfl) (by rfl) (by rfl) _ HU.out ?_
      intro w7 hw7
      go_frame
      have hm7 : Mem w7 a { c'.laid k x bo b.length cb with es := c'.es.push { key := .agg (sumC k).toArray, val := .int .i64 x, born := c'.clock }, clock := c'.clock + 1 } := hw7 ▸ HM6.out.drew.setMap _ _
      have ho7 : Only (Four a c') w6 w7 := hw7 ▸ (Only.refl (Four a c') w6).drew.setMap (gm := c'.gm) (Or.inl (Or.inr (Or.inr (Or.inr rfl)))) _ _
      have c77 : w7.cell? ⟨a, 7, none⟩ = some (.int .i64 (sumB c' ord')) := by rw [← HGP.out.bytes]; exact hm7.cbytes
      have f77 := hm7.fa 7
      have q7 := HGP.out.fits
      have q8 := HPA.out.room
      rw [q8] at q7
      have HM7 := Lib.hid hm7; clear hm7
      have HO7 := Lib.hid ho7; clear ho7 q8 hw7 c64 h6r hu38 hi38
      go_wp2_with fail
      have hm8 : Mem (w7.setCell ⟨a, 7, none⟩ (.int .i64 ((sumB c' ord' : Int) + b.length))) a (c'.added k x bo b.length cb) := by
        rw [← HGP.out.bytes]; exact HM7.out.setBytes _
      have ho8 := HO7.out.setCell (p := ⟨a, 7, none⟩) (Or.inl (Or.inl rfl)) (.int .i64 ((sumB c' ord' : Int) + b.length))
      generalize w7.setCell ⟨a, 7, none⟩ (.int .i64 ((sumB c' ord' : Int) + b.length)) = w8 at *
      have hni : x ∉ ord' := HXX.out.2
      have KL := Lib.hid (link_any w8 a (c'.added k x bo b.length cb) x hm8 hxn (HGP.out.addedLinked hni).spotY)
      have HM8 := Lib.hid hm8; clear hm8
      have HO8 := Lib.hid ho8; clear ho8 c77 f77 hni
      go_wp2_with fail
      refine KL.out.mono ?_
      rintro e w9 ⟨rfl, hm9, ho9⟩
      have HM9 := Lib.hid hm9; clear hm9
      have HO9 := Lib.hid ho9; clear ho9
      go_wp2
      go_ret
      have y1 : Only (Four a c') ws w5 := ((Only.refl (Four a c') ws).drew).trans' HO5.out (fun _ _ h => h.elim)
      have y2 : Only (Four a c') w5 w6 := HO6.out.mono (fun _ _ h => Or.inr (Or.inl h))
      have y3 : Only (Four a c') w8 w9 := HO9.out.mono (fun _ _ h => by rcases h with h | h; exact Or.inl h; exact Or.inr (Or.inl h))
      have y4 : Only (Four a c') w5 w9 := (y2.trans HO8.out).trans y3
      have y5 : Only (Four a c') wp w9 := (HO1.out.trans y1).trans y4
      have y6 : DataAt w9 (fun y => wp.heap.size ≤ y ∧ y < w9.heap.size) bo b := fun j hj => by
        obtain ⟨ad, h1, h2, h3⟩ := HD5.out j hj
        have h4 : ws.heap.size ≤ ad.block := h3
        have h5 := HO1.out.size
        have h6 : ¬ Four a c' (ad.add j).block := fun hf => absurd (HGP.out.low _ (HGP.out.own _ hf)) (by rw [add_block]; omega)
        have h7 := block_lt_of_cell (y4.cell h2 h6)
        rw [add_block] at h7
        exact ⟨ad, h1, y4.cell h2 h6, by omega, h7⟩
      have hg9 := HGP.out.added HS'.out hk HNF.out HX.out HM9.out HLT.out.2 y6 y5
      have hni : x ∉ ord' := HXX.out.2
      have y7 : Only F w wp := (HO.out.mono (fun _ _ h => h.elim)).trans HOP.out
      refine ⟨rfl, _, _, _, _, _, hg9, ?_, HPA.out.nn, HPA.out.room, fun y hy => Or.inl hy, fun y hy => ?_, y7.trans (y5.mono (fun y _ hy => HGP.out.own _ hy))⟩
      · rw [List.map_append, ← HTR.out]
        congr 1
        · exact List.map_congr_left fun i hi => upd_other _ _ (fun e => hni (e ▸ hi))
        · simp [upd_same]
      · rcases hy with hy | hy
        · exact Or.inl hy
        · right; have := y7.size; omega
end Go.Proofs.Ytafeiankpckijaa
