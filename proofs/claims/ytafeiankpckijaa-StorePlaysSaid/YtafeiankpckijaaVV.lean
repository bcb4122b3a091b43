/- The walk of StorePlays. -/
import Derived.Test.YtafeiankpckijaaRL
import Derived.Deep.CutBlock
import Derived.Deep.CutRange
namespace Go.Proofs.Ytafeiankpckijaa
open Go.RowKit
set_option linter.unusedSimpArgs false
set_option linter.unusedVariables false
attribute [local go_sem ↓] Go.wp_at_zero Go.wp_at_succ
theorem Dos.bytes {W w : World} {ao : Option Addr} {b : List Int} (h : DataAt W (fun y => y < W.heap.size) ao b) (ho : Only (fun _ => False) W w) : Bytes w ao b := fun j hj => by
  obtain ⟨ad, e1, e2, -⟩ := h j hj
  exact ⟨ad, e1, ho.cell e2 (fun h => h)⟩
theorem data_le {k : Nat} : ∀ L : List Chunk, (dataOf k L).length ≤ sB L
  | [] => by simp [dataOf, own]
  | x :: L => by
    have ih := data_le (k := k) L
    unfold dataOf own at ih ⊢
    rw [List.filter_cons]
    simp only [sB]
    split
    · simp
    · omega
set_option maxRecDepth 100000 in
set_option maxHeartbeats 16000000 in
theorem plays_law (AW : Awake) (W : World) (n r : Int) (lo : Option Addr) (ds : List D) (cap : Nat) (hd : Dos W lo ds) (hold : Old W W.heap.size ds) (hl : ds.length ≤ 3000000000000) :
    Calls Try.prog 4 #[.int .i64 n, .int .i64 r, .slice lo ds.length cap] W (Law W) := by
  have HAW := Lib.hid AW; clear AW
  have HE := Lib.hid (And.intro hd hold); clear hd hold
  by_cases hbad : n < 1 ∨ 64 < n ∨ r < 1 ∨ 8192 < r
  · have K1 := Lib.hid (new_bad W n r hbad)
    have K2 := Lib.hid (fun w => rnew_bad w n r hbad)
    have HO := Lib.hid (Only.refl (fun _ => False) W)
    clear hbad
    go_enter Try.func4, Try.ntmps4
    go_wp2_with fail
    refine K1.out.mono ?_
    rintro e w1 ⟨rfl, rfl⟩
    go_wp2_with fail
    refine (K2.out _).mono ?_
    rintro e w2 ⟨rfl, rfl⟩
    clear K1 K2
    go_wp2_with fail
    refine (HAW.out _).mono ?_
    rintro e w4 ⟨rfl, ho⟩
    have HO4 := Lib.hid (HO.out.trans ho); clear ho
    go_wp2
    go_ret
    exact ⟨rfl, HO4.out⟩
  · obtain ⟨n1, rfl⟩ : ∃ n1 : Nat, n = n1 := ⟨n.toNat, by omega⟩
    obtain ⟨r1, rfl⟩ : ∃ r1 : Nat, r = r1 := ⟨r.toNat, by omega⟩
    have hg : 1 ≤ n1 ∧ n1 ≤ 64 ∧ 1 ≤ r1 ∧ r1 ≤ 8192 := by omega
    clear hbad
    have HG := Lib.hid hg
    have K1 := Lib.hid (new_mine W n1 r1 hg.1 hg.2.1 hg.2.2.1 hg.2.2.2)
    clear hg
    unfold Ptr at K1
    go_enter Try.func4, Try.ntmps4
    go_wp2_with fail
    refine K1.out.mono ?_
    rintro e w1 ⟨rfl, hm1⟩
    have K2 := Lib.hid (rnew_good W w1 n1 r1 HG.out.1 HG.out.2.1 HG.out.2.2.1 HG.out.2.2.2 hm1.only.size)
    have HM1 := Lib.hid hm1
    clear hm1 K1
    generalize W.heap.size + 1 = a at *
    go_wp2_with fail
    refine K2.out.mono ?_
    rintro e w2 ⟨rfl, hr2, ho2⟩
    have HP := Lib.hid (show Pair W w2 a w1.heap.size n1 r1 0 [] (fun y => y = w1.heap.size) (fun y => y = w1.heap.size) from
      ⟨(Mine2.of HM1.out).grow ho2 (fun y hy => Or.inr ⟨by subst hy; exact Nat.le_refl _, by subst hy; exact (hr2.low _ rfl).2⟩), hr2, fun _ h => h⟩)
    generalize w1.heap.size = rr at *
    have KS1 := Lib.hid (short_any w2 lo ds cap (HE.out.1.frame HP.out.mine.only (fun _ _ h => h)) hl)
    clear hr2 ho2 K2 HM1
    go_wp2_with fail
    refine KS1.out.mono ?_
    rintro e w3 ⟨q1, rfl, rfl, hq1⟩
    have HQ1 := Lib.hid hq1; clear hq1 KS1
    have HO := Lib.hid HP.out.mine.only
    cases q1 with
    | false =>
      go_wp2_with fail
      refine (HAW.out _).mono ?_
      rintro e w4 ⟨rfl, ho⟩
      have HO4 := Lib.hid (HO.out.trans ho); clear ho
      go_wp2
      go_ret
      exact ⟨rfl, HO4.out⟩
    | true =>
    have HQ := Lib.hid (HQ1.out rfl)
    clear HQ1 HO
    go_wp2_with fail
    go_loopg [54] ds.length (fun g v wl => ∃ i : Nat, v = .int .i64 i ∧ Hid (i + g = ds.length ∧ ∃ L G G1, Pair W wl a rr n1 r1 i L G G1))
    case atStart => exact ⟨0, rfl, Lib.hid ⟨by omega, [], _, _, HP.out⟩⟩
    case round =>
      obtain ⟨i, rfl, hh⟩ := hrel
      obtain ⟨hig, L, G, G1, hp⟩ := hh.out
      clear hh HP
      have hq1 := HQ.out.1
      by_cases hi : i < ds.length
      · have hi' : (i : Int) < (ds.length : Int) := by omega
        have b0 : (0 : Int) ≤ i := by omega
        have hmem : ds[i] ∈ ds := List.getElem_mem hi
        obtain ⟨sb, so, h1, h2, h3, h4, h5⟩ := HE.out.1.frame hp.mine.only (fun _ _ h => h) i ds[i] (List.getElem?_eq_getElem hi)
        have hdat : DataAt W (fun y => y < W.heap.size) ds[i].ao ds[i].b := HE.out.2 _ hmem
        have hlm : ds[i].b.length ≤ 65536 := by have := len_mem hmem; have := HQ.out.2; omega
        generalize ds[i] = d at *
        have h1' := Lib.hid h1; clear h1
        obtain rfl := h1'.out
        clear h1' hmem
        have hoa : Only (fun _ => False) wr ((wr.alloc (.cells d.cells.toArray 24)).alloc (.cells d.cells.toArray 24)) := ((Only.refl _ wr).alloc _).alloc _
        have HX := Lib.hid (And.intro hdat hlm)
        have KC := Lib.hid (cloneown_any d.ao d.b d.cap _ (by omega) (Dos.bytes hdat (hp.mine.only.trans hoa)))
        have hb1 := (box_new wr d 24).frame ((Only.refl (fun _ => False) (wr.alloc (.cells d.cells.toArray 24))).alloc (.cells d.cells.toArray 24))
        have hb2 := heap_alloc_new (wr.alloc (.cells d.cells.toArray 24)) (.cells d.cells.toArray 24)
        rw [show (wr.alloc (.cells d.cells.toArray 24)).heap.size = wr.heap.size + 1 by simp] at hb2
        have HBX := Lib.hid (And.intro hb1 (And.intro hb2 hoa))
        have HP := Lib.hid hp
        clear hdat hlm hoa hp hb1 hb2
        unfold D.cells at KC HBX
        go_wp2_with fail
        refine KC.out.mono ?_
        rintro e wc ⟨bo, cb, rfl, hown, hoc⟩
        have hw2 := hoc.block (wr.heap.size + 1) (Array.getElem?_eq_some_iff.1 HBX.out.2.1).1 (fun e => e)
        obtain ⟨hc2, hf2, hr4, hv4, hd4⟩ := Rnd.start (g := wr.heap.size) (d := d) HP.out (HBX.out.2.2.trans hoc) (HBX.out.1.frame hoc) (Nat.le_refl _) (hw2.trans HBX.out.2.1) rfl hown (by simp) (by simp)
        have hs4 : (wc.setCell ⟨wr.heap.size + 1, 2, none⟩ (.slice bo d.b.length cb)).heap.size = wc.heap.size := by simp [World.setCell]
        have HR4 := Lib.hid hr4
        have HV4 := Lib.hid (And.intro hv4 hd4)
        have HI := Lib.hid (show i < 1000000000 by have := HQ.out.1; omega)
        have HIG := Lib.hid (And.intro hig hi)
        have HK := Lib.hid (keyOf_lt d.id)
        have KS := Lib.hid (fun w => sum_any d.id w)
        have HOK := Lib.hid (hr4.ok HI.out)
        clear hw2 hr4 hv4 hd4 hown hoc HP HBX KC hs4
        generalize grow G1 wr (wc.setCell ⟨wr.heap.size + 1, 2, none⟩ (.slice bo d.b.length cb)) = G2 at *
        go_upto_region 12 with fail
        generalize wc.setCell ⟨wr.heap.size + 1, 2, none⟩ (.slice bo d.b.length cb) = w4 at *
        generalize wr.heap.size = g at *
        clear hc2 hf2
        obtain ⟨d0, d1, d2, d3⟩ := HR4.out.box
        have hw := op_wrap d.op
        go_upto_block 2 with fail
        go_cut [14, 15] from 55 to 220 (fun v14 v15 wx => ∃ E : Int, v14 = .int .i64 E ∧ v15 = .int .i64 E ∧ ∃ (M : List Chunk) (G8 G9 : Nat → Prop), Hid (Rnd W wx a rr n1 r1 (i + 1) M M G8 G9 d g))
        case rest =>
         as_aux_lemma =>
          obtain ⟨E, rfl, rfl, M, G8, G9, HR9⟩ := hcut
          clear HX HV4 HR4 HOK d0 d1 d2 d3 hw
          go_upto_region 41 with fail
          obtain ⟨lo2, cp2, hfin⟩ := Fin2.of HR9.out (by have := HI.out; have := HIG.out; have := HQ.out.1; omega)
          have FA := Lib.hid (hfin.only (Only.refl (fun _ => False) _).drew)
          clear hfin HR9
          refine wp_region_noPanic ?_
          refine wp_region_held_drew (S := (fun w' => w'.cell? ⟨g, 1, none⟩ = some (.int .i64 d.id) ∧ w'.cell? ⟨rr, 2, none⟩ = some (.slice lo2 M.length cp2))) (by kernel_rfl) (FA.out.S) (fun hHeld => ?_)
          refine wpAnyH_take (i := 0) (v := ?_) rfl (by kernel_rfl) (by kernel_rfl) (by kernel_rfl) (fun _ _ _ h => h) (Or.inl ⟨by rfl, ?_⟩) (by assumption) ?_
          rotate_left
          · ((intro w hSw); (first | (go_simp; done) | (go_simp; with_reducible rfl)))
          (try simp only [Act.put, List.setIfInBounds_toArray, List.set_cons_zero, List.set_cons_succ, List.getElem_toArray, List.getElem_cons_succ, List.getElem_cons_zero])
          refine wpAnyH_take (i := 1) (v := ?_) rfl (by kernel_rfl) (by kernel_rfl) (by kernel_rfl) (fun _ _ _ h => h) (Or.inl ⟨by rfl, ?_⟩) (by assumption) ?_
          rotate_left
          · ((intro w hSw); (first | (go_simp; done) | (go_simp; with_reducible rfl)))
          (try simp only [Act.put, List.setIfInBounds_toArray, List.set_cons_zero, List.set_cons_succ, List.getElem_toArray, List.getElem_cons_succ, List.getElem_cons_zero])
          refine wpAnyH_take (i := 2) (v := ?_) rfl (by kernel_rfl) (by kernel_rfl) (by kernel_rfl) (fun _ _ _ h => h) (Or.inl ⟨by rfl, ?_⟩) (by assumption) ?_
          rotate_left
          · ((intro w hSw); (first | (go_simp; done) | (go_simp; with_reducible rfl)))
          (try simp only [Act.put, List.setIfInBounds_toArray, List.set_cons_zero, List.set_cons_succ, List.getElem_toArray, List.getElem_cons_succ, List.getElem_cons_zero])
          refine wpAnyH_take (i := 3) (v := ?_) rfl (by kernel_rfl) (by kernel_rfl) (by kernel_rfl) (fun _ _ _ h => h) (Or.inl ⟨by rfl, ?_⟩) (by assumption) ?_
          rotate_left
          · ((intro w hSw); (first | (go_simp; done) | (go_simp; with_reducible rfl)))
          (try simp only [Act.put, List.setIfInBounds_toArray, List.set_cons_zero, List.set_cons_succ, List.getElem_toArray, List.getElem_cons_succ, List.getElem_cons_zero])
          refine wpAnyH_take (i := 4) (v := ?_) rfl (by kernel_rfl) (by kernel_rfl) (by kernel_rfl) (fun _ _ _ h => h) (Or.inl ⟨by rfl, ?_⟩) (by assumption) ?_
          rotate_left
          · ((intro w hSw); (first | (go_simp; done) | (go_simp; with_reducible rfl)))
          (try simp only [Act.put, List.setIfInBounds_toArray, List.set_cons_zero, List.set_cons_succ, List.getElem_toArray, List.getElem_cons_succ, List.getElem_cons_zero])
          refine wpAnyH_take (i := 6) (v := ?_) rfl (by kernel_rfl) (by kernel_rfl) (by kernel_rfl) (fun _ _ _ h => h) (Or.inl ⟨by rfl, ?_⟩) (by assumption) ?_
          rotate_left
          · ((intro w hSw); (first | (go_simp; done) | (go_simp; with_reducible rfl)))
          (try simp only [Act.put, List.setIfInBounds_toArray, List.set_cons_zero, List.set_cons_succ, List.getElem_toArray, List.getElem_cons_succ, List.getElem_cons_zero])
          refine wpAnyH_take (i := 7) (v := ?_) rfl (by kernel_rfl) (by kernel_rfl) (by kernel_rfl) (fun _ _ _ h => h) (Or.inl ⟨by rfl, ?_⟩) (by assumption) ?_
          rotate_left
          · ((intro w hSw); (first | (go_simp; done) | (go_simp; with_reducible rfl)))
          (try simp only [Act.put, List.setIfInBounds_toArray, List.set_cons_zero, List.set_cons_succ, List.getElem_toArray, List.getElem_cons_succ, List.getElem_cons_zero])
          refine wpAnyH_take (i := 8) (v := ?_) rfl (by kernel_rfl) (by kernel_rfl) (by kernel_rfl) (fun _ _ _ h => h) (Or.inl ⟨by rfl, ?_⟩) (by assumption) ?_
          rotate_left
          · ((intro w hSw); (first | (go_simp; done) | (go_simp; with_reducible rfl)))
          (try simp only [Act.put, List.setIfInBounds_toArray, List.set_cons_zero, List.set_cons_succ, List.getElem_toArray, List.getElem_cons_succ, List.getElem_cons_zero])
          refine wpAnyH_take (i := 9) (v := ?_) rfl (by kernel_rfl) (by kernel_rfl) (by kernel_rfl) (fun _ _ _ h => h) (Or.inl ⟨by rfl, ?_⟩) (by assumption) ?_
          rotate_left
          · ((intro w hSw); (first | (go_simp; done) | (go_simp; with_reducible rfl)))
          (try simp only [Act.put, List.setIfInBounds_toArray, List.set_cons_zero, List.set_cons_succ, List.getElem_toArray, List.getElem_cons_succ, List.getElem_cons_zero])
          refine wpAnyH_take (i := 10) (v := ?_) rfl (by kernel_rfl) (by kernel_rfl) (by kernel_rfl) (fun _ _ _ h => h) (Or.inl ⟨by rfl, ?_⟩) (by assumption) ?_
          rotate_left
          · ((intro w hSw); (first | (go_simp; done) | (go_simp; with_reducible rfl)))
          (try simp only [Act.put, List.setIfInBounds_toArray, List.set_cons_zero, List.set_cons_succ, List.getElem_toArray, List.getElem_cons_succ, List.getElem_cons_zero])
          refine wpAnyH_ready (rs := [5]) (by kernel_rfl) (by simp) ?_
          refine AllReadyH.cons rfl (fun K hK => ?_) AllReadyH.nil
          go_simp
          (refine FA.out.mlen.mono ?_; rintro e w10 ⟨rfl, rfl⟩)
          (try go_wp2_with fail)
          refine hK.out _ _ (FA.out.S) (fun hHeld => ?_)
          clear hK K
          (try simp only [Act.put, List.setIfInBounds_toArray, List.set_cons_zero, List.set_cons_succ, List.getElem_toArray, List.getElem_cons_succ, List.getElem_cons_zero])
          refine wpAnyH_take (i := 11) (v := ?_) rfl (by kernel_rfl) (by kernel_rfl) (by kernel_rfl) (fun _ _ _ h => h) (Or.inl ⟨by rfl, ?_⟩) (by assumption) ?_
          rotate_left
          · ((intro w hSw); (first | (go_simp; done) | (go_simp; with_reducible rfl)))
          (try simp only [Act.put, List.setIfInBounds_toArray, List.set_cons_zero, List.set_cons_succ, List.getElem_toArray, List.getElem_cons_succ, List.getElem_cons_zero])
          refine wpAnyH_take (i := 12) (v := ?_) rfl (by kernel_rfl) (by kernel_rfl) (by kernel_rfl) (fun _ _ _ h => h) (Or.inl ⟨by rfl, ?_⟩) (by assumption) ?_
          rotate_left
          · ((intro w hSw); (first | (go_simp; done) | (go_simp; with_reducible rfl)))
          (try simp only [Act.put, List.setIfInBounds_toArray, List.set_cons_zero, List.set_cons_succ, List.getElem_toArray, List.getElem_cons_succ, List.getElem_cons_zero])
          refine wpAnyH_take (i := 13) (v := ?_) rfl (by kernel_rfl) (by kernel_rfl) (by kernel_rfl) (fun _ _ _ h => h) (Or.inl ⟨by rfl, ?_⟩) (by assumption) ?_
          rotate_left
          · ((intro w hSw); (first | (go_simp; done) | (go_simp; with_reducible rfl)))
          (try simp only [Act.put, List.setIfInBounds_toArray, List.set_cons_zero, List.set_cons_succ, List.getElem_toArray, List.getElem_cons_succ, List.getElem_cons_zero])
          refine wpAnyH_take (i := 14) (v := ?_) rfl (by kernel_rfl) (by kernel_rfl) (by kernel_rfl) (fun _ _ _ h => h) (Or.inl ⟨by rfl, ?_⟩) (by assumption) ?_
          rotate_left
          · ((intro w hSw); (first | (go_simp; done) | (go_simp; with_reducible rfl)))
          (try simp only [Act.put, List.setIfInBounds_toArray, List.set_cons_zero, List.set_cons_succ, List.getElem_toArray, List.getElem_cons_succ, List.getElem_cons_zero])
          refine wpAnyH_take (i := 16) (v := ?_) rfl (by kernel_rfl) (by kernel_rfl) (by kernel_rfl) (fun _ _ _ h => h) (Or.inl ⟨by rfl, ?_⟩) (by assumption) ?_
          rotate_left
          · ((intro w hSw); (first | (go_simp; done) | (go_simp; with_reducible rfl)))
          (try simp only [Act.put, List.setIfInBounds_toArray, List.set_cons_zero, List.set_cons_succ, List.getElem_toArray, List.getElem_cons_succ, List.getElem_cons_zero])
          refine wpAnyH_ready (rs := [15]) (by kernel_rfl) (by simp) ?_
          refine AllReadyH.cons rfl (fun K hK => ?_) AllReadyH.nil
          go_simp
          (refine FA.out.mbytes.mono ?_; rintro e w11 ⟨rfl, rfl⟩)
          (try go_wp2_with fail)
          refine hK.out _ _ (FA.out.S) (fun hHeld => ?_)
          clear hK K
          (try simp only [Act.put, List.setIfInBounds_toArray, List.set_cons_zero, List.set_cons_succ, List.getElem_toArray, List.getElem_cons_succ, List.getElem_cons_zero])
          refine wpAnyH_ready (rs := [17]) (by kernel_rfl) (by simp) ?_
          refine AllReadyH.cons rfl (fun K hK => ?_) AllReadyH.nil
          go_simp
          (refine FA.out.rbytes.mono ?_; rintro e w12 ⟨rfl, ho⟩; have FB := Lib.hid (FA.out.only ho); clear ho)
          (try go_wp2_with fail)
          refine hK.out _ _ (FB.out.S) (fun hHeld => ?_)
          clear hK K
          (try simp only [Act.put, List.setIfInBounds_toArray, List.set_cons_zero, List.set_cons_succ, List.getElem_toArray, List.getElem_cons_succ, List.getElem_cons_zero])
          refine wpAnyH_take (i := 18) (v := ?_) rfl (by kernel_rfl) (by kernel_rfl) (by kernel_rfl) (fun _ _ _ h => h) (Or.inl ⟨by rfl, ?_⟩) (by assumption) ?_
          rotate_left
          · ((intro w hSw); (first | (go_simp; done) | (go_simp; with_reducible rfl)))
          (try simp only [Act.put, List.setIfInBounds_toArray, List.set_cons_zero, List.set_cons_succ, List.getElem_toArray, List.getElem_cons_succ, List.getElem_cons_zero])
          refine wpAnyH_take (i := 19) (v := ?_) rfl (by kernel_rfl) (by kernel_rfl) (by kernel_rfl) (fun _ _ _ h => h) (Or.inl ⟨by rfl, ?_⟩) (by assumption) ?_
          rotate_left
          · ((intro w hSw); (first | (go_simp; done) | (go_simp; with_reducible rfl)))
          (try simp only [Act.put, List.setIfInBounds_toArray, List.set_cons_zero, List.set_cons_succ, List.getElem_toArray, List.getElem_cons_succ, List.getElem_cons_zero])
          refine wpAnyH_take (i := 20) (v := ?_) rfl (by kernel_rfl) (by kernel_rfl) (by kernel_rfl) (fun _ _ _ h => h) (Or.inl ⟨by rfl, ?_⟩) (by assumption) ?_
          rotate_left
          · ((intro w hSw); (first | (go_simp; done) | (go_simp; with_reducible rfl)))
          (try simp only [Act.put, List.setIfInBounds_toArray, List.set_cons_zero, List.set_cons_succ, List.getElem_toArray, List.getElem_cons_succ, List.getElem_cons_zero])
          refine wpAnyH_take (i := 21) (v := ?_) rfl (by kernel_rfl) (by kernel_rfl) (by kernel_rfl) (fun _ _ _ h => h) (Or.inl ⟨by rfl, ?_⟩) (by assumption) ?_
          rotate_left
          · ((intro w hSw); (first | (go_simp; done) | (go_simp; with_reducible rfl)))
          (try simp only [Act.put, List.setIfInBounds_toArray, List.set_cons_zero, List.set_cons_succ, List.getElem_toArray, List.getElem_cons_succ, List.getElem_cons_zero])
          refine wpAnyH_take (i := 23) (v := ?_) rfl (by kernel_rfl) (by kernel_rfl) (by kernel_rfl) (fun _ _ _ h => h) (Or.inl ⟨by rfl, ?_⟩) (by assumption) ?_
          rotate_left
          · ((intro w hSw); (first | (go_simp; done) | (go_simp; with_reducible rfl)))
          (try simp only [Act.put, List.setIfInBounds_toArray, List.set_cons_zero, List.set_cons_succ, List.getElem_toArray, List.getElem_cons_succ, List.getElem_cons_zero])
          refine wpAnyH_ready (rs := [22]) (by kernel_rfl) (by simp) ?_
          refine AllReadyH.cons rfl (fun K hK => ?_) AllReadyH.nil
          go_simp
          (refine FB.out.mlist.mono ?_; rintro e w13 ⟨u1, rfl, hu, ho⟩; have FC := Lib.hid (And.intro (FB.out.only ho) hu); clear ho hu)
          (try go_wp2_with fail)
          refine hK.out _ _ (FC.out.1.S) (fun hHeld => ?_)
          clear hK K
          (try simp only [Act.put, List.setIfInBounds_toArray, List.set_cons_zero, List.set_cons_succ, List.getElem_toArray, List.getElem_cons_succ, List.getElem_cons_zero])
          refine wpAnyH_ready (rs := [24]) (by kernel_rfl) (by simp) ?_
          refine AllReadyH.cons rfl (fun K hK => ?_) AllReadyH.nil
          go_simp
          (refine FC.out.1.rlist.mono ?_; rintro e w14 ⟨u2, rfl, hu, ho⟩; have FD := Lib.hid (And.intro (FC.out.1.only ho) (And.intro (FC.out.2.frame ho) hu)); clear ho hu)
          (try go_wp2_with fail)
          refine hK.out _ _ (FD.out.1.S) (fun hHeld => ?_)
          clear hK K
          (try simp only [Act.put, List.setIfInBounds_toArray, List.set_cons_zero, List.set_cons_succ, List.getElem_toArray, List.getElem_cons_succ, List.getElem_cons_zero])
          refine wpAnyH_ready (rs := [25]) (by kernel_rfl) (by simp) ?_
          refine AllReadyH.cons rfl (fun K hK => ?_) AllReadyH.nil
          go_simp
          (refine (FD.out.1.eq FD.out.2.1 FD.out.2.2).mono ?_; rintro e w15 ⟨rfl, ho⟩; have FE := Lib.hid (FD.out.1.only ho); clear ho)
          (try go_wp2_with fail)
          refine hK.out _ _ (FE.out.S) (fun hHeld => ?_)
          clear hK K
          (try simp only [Act.put, List.setIfInBounds_toArray, List.set_cons_zero, List.set_cons_succ, List.getElem_toArray, List.getElem_cons_succ, List.getElem_cons_zero])
          refine wpAnyH_take (i := 26) (v := ?_) rfl (by kernel_rfl) (by kernel_rfl) (by kernel_rfl) (fun _ _ _ h => h) (Or.inl ⟨by rfl, ?_⟩) (by assumption) ?_
          rotate_left
          · ((intro w hSw); (first | (go_simp; done) | (go_simp; with_reducible rfl)))
          (try simp only [Act.put, List.setIfInBounds_toArray, List.set_cons_zero, List.set_cons_succ, List.getElem_toArray, List.getElem_cons_succ, List.getElem_cons_zero])
          refine wpAnyH_take (i := 27) (v := ?_) rfl (by kernel_rfl) (by kernel_rfl) (by kernel_rfl) (fun _ _ _ h => h) (Or.inl ⟨by rfl, ?_⟩) (by assumption) ?_
          rotate_left
          · ((intro w hSw); (first | (go_simp; done) | (go_simp; with_reducible rfl)))
          (try simp only [Act.put, List.setIfInBounds_toArray, List.set_cons_zero, List.set_cons_succ, List.getElem_toArray, List.getElem_cons_succ, List.getElem_cons_zero])
          refine wpAnyH_take (i := 28) (v := ?_) rfl (by kernel_rfl) (by kernel_rfl) (by kernel_rfl) (fun _ _ _ h => h) (Or.inl ⟨by rfl, ?_⟩) (by assumption) ?_
          rotate_left
          · ((intro w hSw); (first | (go_simp; done) | (go_simp; with_reducible rfl)))
          (try simp only [Act.put, List.setIfInBounds_toArray, List.set_cons_zero, List.set_cons_succ, List.getElem_toArray, List.getElem_cons_succ, List.getElem_cons_zero])
          refine wpAnyH_take (i := 29) (v := ?_) rfl (by kernel_rfl) (by kernel_rfl) (by kernel_rfl) (fun _ _ _ h => h) (Or.inl ⟨by rfl, ?_⟩) (by assumption) ?_
          rotate_left
          · ((intro w hSw); (first | (go_simp; done) | (go_simp; with_reducible rfl)))
          (try simp only [Act.put, List.setIfInBounds_toArray, List.set_cons_zero, List.set_cons_succ, List.getElem_toArray, List.getElem_cons_succ, List.getElem_cons_zero])
          refine wpAnyH_take (i := 30) (v := ?_) rfl (by kernel_rfl) (by kernel_rfl) (by kernel_rfl) (fun _ _ _ h => h) (Or.inl ⟨by rfl, ?_⟩) (by assumption) ?_
          rotate_left
          · ((intro w hSw); (first | (go_simp; done) | (go_simp; with_reducible rfl)))
          (try simp only [Act.put, List.setIfInBounds_toArray, List.set_cons_zero, List.set_cons_succ, List.getElem_toArray, List.getElem_cons_succ, List.getElem_cons_zero])
          refine wpAnyH_take (i := 31) (v := ?_) rfl (by kernel_rfl) (by kernel_rfl) (by kernel_rfl) (fun _ _ _ h => h) (Or.inl ⟨by rfl, ?_⟩) (by assumption) ?_
          rotate_left
          · ((intro w hSw); (first | (go_simp; done) | (go_simp; with_reducible rfl)))
          (try simp only [Act.put, List.setIfInBounds_toArray, List.set_cons_zero, List.set_cons_succ, List.getElem_toArray, List.getElem_cons_succ, List.getElem_cons_zero])
          refine wpAnyH_take (i := 34) (v := ?_) rfl (by kernel_rfl) (by kernel_rfl) (by kernel_rfl) (fun _ _ _ h => h) (Or.inl ⟨by rfl, ?_⟩) (by assumption) ?_
          rotate_left
          · ((intro w hSw); (first | (go_simp; done) | (go_simp; with_reducible rfl)))
          (try simp only [Act.put, List.setIfInBounds_toArray, List.set_cons_zero, List.set_cons_succ, List.getElem_toArray, List.getElem_cons_succ, List.getElem_cons_zero])
          refine wpAnyH_take (i := 35) (v := ?_) rfl (by kernel_rfl) (by kernel_rfl) (by kernel_rfl) (fun _ _ _ h => h) (Or.inl ⟨by rfl, ?_⟩) (by assumption) ?_
          rotate_left
          · ((intro w hSw); (first | (go_simp; done) | (go_simp; with_reducible rfl)))
          (try simp only [Act.put, List.setIfInBounds_toArray, List.set_cons_zero, List.set_cons_succ, List.getElem_toArray, List.getElem_cons_succ, List.getElem_cons_zero])
          refine wpAnyH_take (i := 36) (v := ?_) rfl (by kernel_rfl) (by kernel_rfl) (by kernel_rfl) (fun _ _ _ h => h) (Or.inl ⟨by rfl, ?_⟩) (by assumption) ?_
          rotate_left
          · ((intro w hSw); (first | (go_simp; done) | (go_simp; with_reducible rfl)))
          (try simp only [Act.put, List.setIfInBounds_toArray, List.set_cons_zero, List.set_cons_succ, List.getElem_toArray, List.getElem_cons_succ, List.getElem_cons_zero])
          refine wpAnyH_ready (rs := [32]) (by kernel_rfl) (by simp) ?_
          refine AllReadyH.cons rfl (fun K hK => ?_) AllReadyH.nil
          go_simp
          (refine (KS.out _).mono ?_; rintro e w16 ⟨rfl, ho⟩; have FF := Lib.hid (FE.out.only ho); clear ho)
          (try go_wp2_with fail)
          refine hK.out _ _ (FF.out.S) (fun hHeld => ?_)
          clear hK K
          (try simp only [Act.put, List.setIfInBounds_toArray, List.set_cons_zero, List.set_cons_succ, List.getElem_toArray, List.getElem_cons_succ, List.getElem_cons_zero])
          refine wpAnyH_ready (rs := [33]) (by kernel_rfl) (by simp) ?_
          refine AllReadyH.cons rfl (fun K hK => ?_) AllReadyH.nil
          go_simp
          (refine (FF.out.mhas HK.out).mono ?_; rintro e w17 ⟨rfl, ho⟩; have FG := Lib.hid (FF.out.only ho); clear ho)
          (try go_wp2_with fail)
          refine hK.out _ _ (FG.out.S) (fun hHeld => ?_)
          clear hK K
          (try simp only [Act.put, List.setIfInBounds_toArray, List.set_cons_zero, List.set_cons_succ, List.getElem_toArray, List.getElem_cons_succ, List.getElem_cons_zero])
          refine wpAnyH_ready (rs := [37]) (by kernel_rfl) (by simp) ?_
          refine AllReadyH.cons rfl (fun K hK => ?_) AllReadyH.nil
          go_simp
          (refine (KS.out _).mono ?_; rintro e w18 ⟨rfl, ho⟩; have FH := Lib.hid (FG.out.only ho); clear ho)
          (try go_wp2_with fail)
          refine hK.out _ _ (FH.out.S) (fun hHeld => ?_)
          clear hK K
          (try simp only [Act.put, List.setIfInBounds_toArray, List.set_cons_zero, List.set_cons_succ, List.getElem_toArray, List.getElem_cons_succ, List.getElem_cons_zero])
          refine wpAnyH_ready (rs := [38]) (by kernel_rfl) (by simp) ?_
          refine AllReadyH.cons rfl (fun K hK => ?_) AllReadyH.nil
          go_simp
          (refine (FH.out.rhas HK.out).mono ?_; rintro e w19 ⟨rfl, ho⟩; have FI := Lib.hid (FH.out.only ho); clear ho)
          (try go_wp2_with fail)
          refine hK.out _ _ (FI.out.S) (fun hHeld => ?_)
          clear hK K
          (try simp only [Act.put, List.setIfInBounds_toArray, List.set_cons_zero, List.set_cons_succ, List.getElem_toArray, List.getElem_cons_succ, List.getElem_cons_zero])
          refine wpAnyH_take (i := 39) (v := ?_) rfl (by kernel_rfl) (by kernel_rfl) (by kernel_rfl) (fun _ _ _ h => h) (Or.inl ⟨by rfl, ?_⟩) (by assumption) ?_
          rotate_left
          · ((intro w hSw); (first | (go_simp; done) | (go_simp; with_reducible rfl)))
          (try simp only [Act.put, List.setIfInBounds_toArray, List.set_cons_zero, List.set_cons_succ, List.getElem_toArray, List.getElem_cons_succ, List.getElem_cons_zero])
          refine wpAnyH_take (i := 40) (v := ?_) rfl (by kernel_rfl) (by kernel_rfl) (by kernel_rfl) (fun _ _ _ h => h) (Or.inl ⟨by rfl, ?_⟩) (by assumption) ?_
          rotate_left
          · ((intro w hSw); (first | (go_simp; done) | (go_simp; with_reducible rfl)))
          (try simp only [Act.put, List.setIfInBounds_toArray, List.set_cons_zero, List.set_cons_succ, List.getElem_toArray, List.getElem_cons_succ, List.getElem_cons_zero])
          refine wpAnyH_done (by kernel_rfl) ?_ _
          refine NoPanic.normal ?_
          go_wp2
          go_roundg (ds.length - (i + 1))
          case measure => omega
          case rel => exact ⟨i + 1, by go_num, Lib.hid ⟨by have := HIG.out; omega, M, _, _, FI.out.rnd.pair⟩⟩
        case first =>
        have hc : d.op % 8 = 3 ∨ d.op % 8 = 4 ∨ d.op % 8 = 5 ∨ d.op % 8 = 6 ∨ d.op % 8 = 7 ∨ d.op % 8 = 0 ∨ d.op % 8 = 1 ∨ d.op % 8 = 2 := by omega
        rcases hc with t | t | t | t | t | t
        · as_aux_lemma =>
          rw [t] at hw
          have KD := Lib.hid (fun w5 (ho : Only (fun _ => False) w4 w5) => (HR4.out.only ho).get HK.out)
          have HX2 := HX
          clear HX HV4 d3 d2
          unfold Ptr at KD
          go_wp2_with fail
          refine (KS.out _).mono ?_
          rintro e w5 ⟨rfl, ho5⟩
          have KD5 := Lib.hid (KD.out _ ho5)
          clear ho5 KD HR4
          go_wp2_with fail
          refine KD5.out.mono ?_
          rintro e w6 ⟨bo2, cb2, rfl, hr6, hm6, hd6⟩
          have HR6 := Lib.hid hr6
          have KD7 := Lib.hid (fun w7 (ho : Only (fun _ => False) w6 w7) => (HR6.out.only ho).rget (hm6.only ho) HK.out HOK.out (hd6.frame' ho))
          obtain ⟨d0, d1, d2, d3⟩ := HR6.out.box
          clear KD5 hr6 hm6 hd6 d0 d2 d3
          unfold Ptr at KD7
          go_wp2_with fail
          refine (KS.out _).mono ?_
          rintro e w7 ⟨rfl, ho7⟩
          have KD8 := Lib.hid (KD7.out _ ho7)
          clear ho7 KD7 HR6 d1
          go_wp2_with fail
          refine KD8.out.mono ?_
          rintro e w8 ⟨bo3, cb3, rfl, hd3, hd2, G8, G9, hr8, hm8⟩
          have KB := Lib.hid (bytes_equal hd2 hd3 cb2 cb3)
          have HR8 := Lib.hid (And.intro hr8 hm8)
          clear KD8 hr8 hm8 hd2 hd3
          have HNB := Lib.hid (show (dataOf (keyOf d.id) L).length ≤ 8192 from by have h1 := data_le (k := keyOf d.id) L; have h2 := HOK.out.sum; have h3 := HOK.out.room; omega)
          generalize touch (keyOf d.id) L = M at *
          generalize getE (keyOf d.id) L = E at *
          generalize (dataOf (keyOf d.id) L).length = n at *
          go_wp2_with fail
          refine KB.out.mono ?_
          rintro e w8b ⟨rfl, rfl⟩
          clear KB
          go_wp2_with fail
          go_loopg [120] n (fun gg v wl => ∃ j : Nat, v = .int .i64 j ∧ Hid (j + gg = n ∧ Rnd W wl a rr n1 r1 (i + 1) M M G8 G9 d g ∧ Mut wl G8 G9 (.slice bo2 n cb2) n g))
          case atStart => exact ⟨0, rfl, Lib.hid ⟨by omega, HR8.out.1, HR8.out.2⟩⟩
          case round =>
            obtain ⟨j, rfl, hh⟩ := hrel
            obtain ⟨hjg, hrj, hmj⟩ := hh.out
            clear hh HR8
            by_cases hj : j < n
            · have hj' : (j : Int) < (n : Int) := by omega
              have hnb := HNB.out
              have c0 : (0 : Int) ≤ j := by omega
              obtain ⟨y, cap2, c, hve, hc1, hf1, hnx⟩ := hmj.at hrj hj
              simp only [Value.slice.injEq] at hve
              obtain ⟨rfl, -, rfl⟩ := hve
              have HNX := Lib.hid hnx
              clear hnx hmj hrj
              go_wp2_with fail
              go_roundg (n - (j + 1))
              case measure => omega
              case rel => exact ⟨j + 1, by go_num, Lib.hid ⟨by omega, (HNX.out _).2.1, (HNX.out _).1⟩⟩
            · have hj' : ¬ (j : Int) < (n : Int) := by omega
              have HR9 := Lib.hid hrj
              clear hmj hrj
              go_wp2
              go_meet
              exact ⟨_, rfl, rfl, _, _, _, HR9⟩
        · as_aux_lemma =>
          rw [t] at hw
          clear HX HV4
          go_upto_region 32 with fail
          have HR5 := Lib.hid (HR4.out.only (Only.refl (fun _ => False) _).drew)
          clear HR4 t hw d0 d2 d3
          refine wp_region_noPanic ?_
          refine wp_region_held_drew (S := (fun w' => w'.cell? ⟨g, 1, none⟩ = some (.int .i64 d.id))) (by kernel_rfl) (d1) (fun hHeld => ?_)
          refine wpAnyH_take (i := 0) (v := ?_) rfl (by kernel_rfl) (by kernel_rfl) (by kernel_rfl) (fun _ _ _ h => h) (Or.inl ⟨by rfl, ?_⟩) (by assumption) ?_
          rotate_left
          · ((intro w hSw); (first | (go_simp; done) | (go_simp; with_reducible rfl)))
          (try simp only [Act.put, List.setIfInBounds_toArray, List.set_cons_zero, List.set_cons_succ, List.getElem_toArray, List.getElem_cons_succ, List.getElem_cons_zero])
          refine wpAnyH_take (i := 1) (v := ?_) rfl (by kernel_rfl) (by kernel_rfl) (by kernel_rfl) (fun _ _ _ h => h) (Or.inl ⟨by rfl, ?_⟩) (by assumption) ?_
          rotate_left
          · ((intro w hSw); (first | (go_simp; done) | (go_simp; with_reducible rfl)))
          (try simp only [Act.put, List.setIfInBounds_toArray, List.set_cons_zero, List.set_cons_succ, List.getElem_toArray, List.getElem_cons_succ, List.getElem_cons_zero])
          refine wpAnyH_take (i := 2) (v := ?_) rfl (by kernel_rfl) (by kernel_rfl) (by kernel_rfl) (fun _ _ _ h => h) (Or.inl ⟨by rfl, ?_⟩) (by assumption) ?_
          rotate_left
          · ((intro w hSw); (first | (go_simp; done) | (go_simp; with_reducible rfl)))
          (try simp only [Act.put, List.setIfInBounds_toArray, List.set_cons_zero, List.set_cons_succ, List.getElem_toArray, List.getElem_cons_succ, List.getElem_cons_zero])
          refine wpAnyH_take (i := 5) (v := ?_) rfl (by kernel_rfl) (by kernel_rfl) (by kernel_rfl) (fun _ _ _ h => h) (Or.inl ⟨by rfl, ?_⟩) (by assumption) ?_
          rotate_left
          · ((intro w hSw); (first | (go_simp; done) | (go_simp; with_reducible rfl)))
          (try simp only [Act.put, List.setIfInBounds_toArray, List.set_cons_zero, List.set_cons_succ, List.getElem_toArray, List.getElem_cons_succ, List.getElem_cons_zero])
          refine wpAnyH_take (i := 6) (v := ?_) rfl (by kernel_rfl) (by kernel_rfl) (by kernel_rfl) (fun _ _ _ h => h) (Or.inl ⟨by rfl, ?_⟩) (by assumption) ?_
          rotate_left
          · ((intro w hSw); (first | (go_simp; done) | (go_simp; with_reducible rfl)))
          (try simp only [Act.put, List.setIfInBounds_toArray, List.set_cons_zero, List.set_cons_succ, List.getElem_toArray, List.getElem_cons_succ, List.getElem_cons_zero])
          refine wpAnyH_take (i := 7) (v := ?_) rfl (by kernel_rfl) (by kernel_rfl) (by kernel_rfl) (fun _ _ _ h => h) (Or.inl ⟨by rfl, ?_⟩) (by assumption) ?_
          rotate_left
          · ((intro w hSw); (first | (go_simp; done) | (go_simp; with_reducible rfl)))
          (try simp only [Act.put, List.setIfInBounds_toArray, List.set_cons_zero, List.set_cons_succ, List.getElem_toArray, List.getElem_cons_succ, List.getElem_cons_zero])
          refine wpAnyH_ready (rs := [3]) (by kernel_rfl) (by simp) ?_
          refine AllReadyH.cons rfl (fun K hK => ?_) AllReadyH.nil
          go_simp
          (refine (KS.out _).mono ?_; rintro e w5 ⟨rfl, ho⟩; have HR6 := Lib.hid (HR5.out.only ho); clear ho; have KP := Lib.hid (HR6.out.pin HK.out HI.out); unfold Ptr at KP)
          (try go_wp2_with fail)
          refine hK.out _ _ (HR6.out.box.2.1) (fun hHeld => ?_)
          clear hK K
          (try simp only [Act.put, List.setIfInBounds_toArray, List.set_cons_zero, List.set_cons_succ, List.getElem_toArray, List.getElem_cons_succ, List.getElem_cons_zero])
          refine wpAnyH_ready (rs := [4]) (by kernel_rfl) (by simp) ?_
          refine AllReadyH.cons rfl (fun K hK => ?_) AllReadyH.nil
          go_simp
          (refine KP.out.mono ?_; rintro e w6 ⟨rfl, ho⟩; have HR7 := Lib.hid ho; clear ho KP)
          (try go_wp2_with fail)
          refine hK.out _ _ (HR7.out.box.2.1) (fun hHeld => ?_)
          clear hK K
          (try simp only [Act.put, List.setIfInBounds_toArray, List.set_cons_zero, List.set_cons_succ, List.getElem_toArray, List.getElem_cons_succ, List.getElem_cons_zero])
          refine wpAnyH_ready (rs := [8]) (by kernel_rfl) (by simp) ?_
          refine AllReadyH.cons rfl (fun K hK => ?_) AllReadyH.nil
          go_simp
          (refine (KS.out _).mono ?_; rintro e w7 ⟨rfl, ho⟩; have HR8 := Lib.hid (HR7.out.only ho); clear ho; have KP := Lib.hid (HR8.out.rpin HK.out HOK.out); unfold Ptr at KP)
          (try go_wp2_with fail)
          refine hK.out _ _ (HR8.out.box.2.1) (fun hHeld => ?_)
          clear hK K
          (try simp only [Act.put, List.setIfInBounds_toArray, List.set_cons_zero, List.set_cons_succ, List.getElem_toArray, List.getElem_cons_succ, List.getElem_cons_zero])
          refine wpAnyH_ready (rs := [9]) (by kernel_rfl) (by simp) ?_
          refine AllReadyH.cons rfl (fun K hK => ?_) AllReadyH.nil
          go_simp
          (refine KP.out.mono ?_; rintro e w8 ⟨rfl, G8, G9, ho⟩; have HR9 := Lib.hid ho; clear ho KP)
          (try go_wp2_with fail)
          refine hK.out _ _ (HR9.out.box.2.1) (fun hHeld => ?_)
          clear hK K
          (try simp only [Act.put, List.setIfInBounds_toArray, List.set_cons_zero, List.set_cons_succ, List.getElem_toArray, List.getElem_cons_succ, List.getElem_cons_zero])
          refine wpAnyH_take (i := 10) (v := ?_) rfl (by kernel_rfl) (by kernel_rfl) (by kernel_rfl) (fun _ _ _ h => h) (Or.inl ⟨by rfl, ?_⟩) (by assumption) ?_
          rotate_left
          · ((intro w hSw); (first | (go_simp; done) | (go_simp; with_reducible rfl)))
          (try simp only [Act.put, List.setIfInBounds_toArray, List.set_cons_zero, List.set_cons_succ, List.getElem_toArray, List.getElem_cons_succ, List.getElem_cons_zero])
          refine wpAnyH_take (i := 11) (v := ?_) rfl (by kernel_rfl) (by kernel_rfl) (by kernel_rfl) (fun _ _ _ h => h) (Or.inl ⟨by rfl, ?_⟩) (by assumption) ?_
          rotate_left
          · ((intro w hSw); (first | (go_simp; done) | (go_simp; with_reducible rfl)))
          (try simp only [Act.put, List.setIfInBounds_toArray, List.set_cons_zero, List.set_cons_succ, List.getElem_toArray, List.getElem_cons_succ, List.getElem_cons_zero])
          refine wpAnyH_done (by kernel_rfl) ?_ _
          refine NoPanic.normal ?_
          go_wp2
          go_meet
          exact ⟨_, rfl, rfl, _, _, _, HR9⟩
        · as_aux_lemma =>
          rw [t] at hw
          clear HX HV4
          go_upto_region 34 with fail
          have HR5 := Lib.hid (HR4.out.only (Only.refl (fun _ => False) _).drew)
          clear HR4 t hw d0 d2 d3
          refine wp_region_noPanic ?_
          refine wp_region_held_drew (S := (fun w' => w'.cell? ⟨g, 1, none⟩ = some (.int .i64 d.id))) (by kernel_rfl) (d1) (fun hHeld => ?_)
          refine wpAnyH_take (i := 0) (v := ?_) rfl (by kernel_rfl) (by kernel_rfl) (by kernel_rfl) (fun _ _ _ h => h) (Or.inl ⟨by rfl, ?_⟩) (by assumption) ?_
          rotate_left
          · ((intro w hSw); (first | (go_simp; done) | (go_simp; with_reducible rfl)))
          (try simp only [Act.put, List.setIfInBounds_toArray, List.set_cons_zero, List.set_cons_succ, List.getElem_toArray, List.getElem_cons_succ, List.getElem_cons_zero])
          refine wpAnyH_take (i := 1) (v := ?_) rfl (by kernel_rfl) (by kernel_rfl) (by kernel_rfl) (fun _ _ _ h => h) (Or.inl ⟨by rfl, ?_⟩) (by assumption) ?_
          rotate_left
          · ((intro w hSw); (first | (go_simp; done) | (go_simp; with_reducible rfl)))
          (try simp only [Act.put, List.setIfInBounds_toArray, List.set_cons_zero, List.set_cons_succ, List.getElem_toArray, List.getElem_cons_succ, List.getElem_cons_zero])
          refine wpAnyH_take (i := 2) (v := ?_) rfl (by kernel_rfl) (by kernel_rfl) (by kernel_rfl) (fun _ _ _ h => h) (Or.inl ⟨by rfl, ?_⟩) (by assumption) ?_
          rotate_left
          · ((intro w hSw); (first | (go_simp; done) | (go_simp; with_reducible rfl)))
          (try simp only [Act.put, List.setIfInBounds_toArray, List.set_cons_zero, List.set_cons_succ, List.getElem_toArray, List.getElem_cons_succ, List.getElem_cons_zero])
          refine wpAnyH_take (i := 5) (v := ?_) rfl (by kernel_rfl) (by kernel_rfl) (by kernel_rfl) (fun _ _ _ h => h) (Or.inl ⟨by rfl, ?_⟩) (by assumption) ?_
          rotate_left
          · ((intro w hSw); (first | (go_simp; done) | (go_simp; with_reducible rfl)))
          (try simp only [Act.put, List.setIfInBounds_toArray, List.set_cons_zero, List.set_cons_succ, List.getElem_toArray, List.getElem_cons_succ, List.getElem_cons_zero])
          refine wpAnyH_take (i := 6) (v := ?_) rfl (by kernel_rfl) (by kernel_rfl) (by kernel_rfl) (fun _ _ _ h => h) (Or.inl ⟨by rfl, ?_⟩) (by assumption) ?_
          rotate_left
          · ((intro w hSw); (first | (go_simp; done) | (go_simp; with_reducible rfl)))
          (try simp only [Act.put, List.setIfInBounds_toArray, List.set_cons_zero, List.set_cons_succ, List.getElem_toArray, List.getElem_cons_succ, List.getElem_cons_zero])
          refine wpAnyH_take (i := 7) (v := ?_) rfl (by kernel_rfl) (by kernel_rfl) (by kernel_rfl) (fun _ _ _ h => h) (Or.inl ⟨by rfl, ?_⟩) (by assumption) ?_
          rotate_left
          · ((intro w hSw); (first | (go_simp; done) | (go_simp; with_reducible rfl)))
          (try simp only [Act.put, List.setIfInBounds_toArray, List.set_cons_zero, List.set_cons_succ, List.getElem_toArray, List.getElem_cons_succ, List.getElem_cons_zero])
          refine wpAnyH_ready (rs := [3]) (by kernel_rfl) (by simp) ?_
          refine AllReadyH.cons rfl (fun K hK => ?_) AllReadyH.nil
          go_simp
          (refine (KS.out _).mono ?_; rintro e w5 ⟨rfl, ho⟩; have HR6 := Lib.hid (HR5.out.only ho); clear ho; have KP := Lib.hid (HR6.out.unpin HK.out HI.out); unfold Ptr at KP)
          (try go_wp2_with fail)
          refine hK.out _ _ (HR6.out.box.2.1) (fun hHeld => ?_)
          clear hK K
          (try simp only [Act.put, List.setIfInBounds_toArray, List.set_cons_zero, List.set_cons_succ, List.getElem_toArray, List.getElem_cons_succ, List.getElem_cons_zero])
          refine wpAnyH_ready (rs := [4]) (by kernel_rfl) (by simp) ?_
          refine AllReadyH.cons rfl (fun K hK => ?_) AllReadyH.nil
          go_simp
          (refine KP.out.mono ?_; rintro e w6 ⟨rfl, ho⟩; have HR7 := Lib.hid ho; clear ho KP)
          (try go_wp2_with fail)
          refine hK.out _ _ (HR7.out.box.2.1) (fun hHeld => ?_)
          clear hK K
          (try simp only [Act.put, List.setIfInBounds_toArray, List.set_cons_zero, List.set_cons_succ, List.getElem_toArray, List.getElem_cons_succ, List.getElem_cons_zero])
          refine wpAnyH_ready (rs := [8]) (by kernel_rfl) (by simp) ?_
          refine AllReadyH.cons rfl (fun K hK => ?_) AllReadyH.nil
          go_simp
          (refine (KS.out _).mono ?_; rintro e w7 ⟨rfl, ho⟩; have HR8 := Lib.hid (HR7.out.only ho); clear ho; have KP := Lib.hid (HR8.out.runpin HK.out HOK.out); unfold Ptr at KP)
          (try go_wp2_with fail)
          refine hK.out _ _ (HR8.out.box.2.1) (fun hHeld => ?_)
          clear hK K
          (try simp only [Act.put, List.setIfInBounds_toArray, List.set_cons_zero, List.set_cons_succ, List.getElem_toArray, List.getElem_cons_succ, List.getElem_cons_zero])
          refine wpAnyH_ready (rs := [9]) (by kernel_rfl) (by simp) ?_
          refine AllReadyH.cons rfl (fun K hK => ?_) AllReadyH.nil
          go_simp
          (refine KP.out.mono ?_; rintro e w8 ⟨rfl, G8, G9, ho⟩; have HR9 := Lib.hid ho; clear ho KP)
          (try go_wp2_with fail)
          refine hK.out _ _ (HR9.out.box.2.1) (fun hHeld => ?_)
          clear hK K
          (try simp only [Act.put, List.setIfInBounds_toArray, List.set_cons_zero, List.set_cons_succ, List.getElem_toArray, List.getElem_cons_succ, List.getElem_cons_zero])
          refine wpAnyH_take (i := 10) (v := ?_) rfl (by kernel_rfl) (by kernel_rfl) (by kernel_rfl) (fun _ _ _ h => h) (Or.inl ⟨by rfl, ?_⟩) (by assumption) ?_
          rotate_left
          · ((intro w hSw); (first | (go_simp; done) | (go_simp; with_reducible rfl)))
          (try simp only [Act.put, List.setIfInBounds_toArray, List.set_cons_zero, List.set_cons_succ, List.getElem_toArray, List.getElem_cons_succ, List.getElem_cons_zero])
          refine wpAnyH_take (i := 11) (v := ?_) rfl (by kernel_rfl) (by kernel_rfl) (by kernel_rfl) (fun _ _ _ h => h) (Or.inl ⟨by rfl, ?_⟩) (by assumption) ?_
          rotate_left
          · ((intro w hSw); (first | (go_simp; done) | (go_simp; with_reducible rfl)))
          (try simp only [Act.put, List.setIfInBounds_toArray, List.set_cons_zero, List.set_cons_succ, List.getElem_toArray, List.getElem_cons_succ, List.getElem_cons_zero])
          refine wpAnyH_done (by kernel_rfl) ?_ _
          refine NoPanic.normal ?_
          go_wp2
          go_meet
          exact ⟨_, rfl, rfl, _, _, _, HR9⟩
        · as_aux_lemma =>
          rw [t] at hw
          clear HX HV4
          go_upto_region 36 with fail
          have HR5 := Lib.hid (HR4.out.only (Only.refl (fun _ => False) _).drew)
          clear HR4 t hw d0 d2 d3
          refine wp_region_noPanic ?_
          refine wp_region_held_drew (S := (fun w' => w'.cell? ⟨g, 1, none⟩ = some (.int .i64 d.id))) (by kernel_rfl) (d1) (fun hHeld => ?_)
          refine wpAnyH_take (i := 0) (v := ?_) rfl (by kernel_rfl) (by kernel_rfl) (by kernel_rfl) (fun _ _ _ h => h) (Or.inl ⟨by rfl, ?_⟩) (by assumption) ?_
          rotate_left
          · ((intro w hSw); (first | (go_simp; done) | (go_simp; with_reducible rfl)))
          (try simp only [Act.put, List.setIfInBounds_toArray, List.set_cons_zero, List.set_cons_succ, List.getElem_toArray, List.getElem_cons_succ, List.getElem_cons_zero])
          refine wpAnyH_take (i := 1) (v := ?_) rfl (by kernel_rfl) (by kernel_rfl) (by kernel_rfl) (fun _ _ _ h => h) (Or.inl ⟨by rfl, ?_⟩) (by assumption) ?_
          rotate_left
          · ((intro w hSw); (first | (go_simp; done) | (go_simp; with_reducible rfl)))
          (try simp only [Act.put, List.setIfInBounds_toArray, List.set_cons_zero, List.set_cons_succ, List.getElem_toArray, List.getElem_cons_succ, List.getElem_cons_zero])
          refine wpAnyH_take (i := 2) (v := ?_) rfl (by kernel_rfl) (by kernel_rfl) (by kernel_rfl) (fun _ _ _ h => h) (Or.inl ⟨by rfl, ?_⟩) (by assumption) ?_
          rotate_left
          · ((intro w hSw); (first | (go_simp; done) | (go_simp; with_reducible rfl)))
          (try simp only [Act.put, List.setIfInBounds_toArray, List.set_cons_zero, List.set_cons_succ, List.getElem_toArray, List.getElem_cons_succ, List.getElem_cons_zero])
          refine wpAnyH_take (i := 5) (v := ?_) rfl (by kernel_rfl) (by kernel_rfl) (by kernel_rfl) (fun _ _ _ h => h) (Or.inl ⟨by rfl, ?_⟩) (by assumption) ?_
          rotate_left
          · ((intro w hSw); (first | (go_simp; done) | (go_simp; with_reducible rfl)))
          (try simp only [Act.put, List.setIfInBounds_toArray, List.set_cons_zero, List.set_cons_succ, List.getElem_toArray, List.getElem_cons_succ, List.getElem_cons_zero])
          refine wpAnyH_take (i := 6) (v := ?_) rfl (by kernel_rfl) (by kernel_rfl) (by kernel_rfl) (fun _ _ _ h => h) (Or.inl ⟨by rfl, ?_⟩) (by assumption) ?_
          rotate_left
          · ((intro w hSw); (first | (go_simp; done) | (go_simp; with_reducible rfl)))
          (try simp only [Act.put, List.setIfInBounds_toArray, List.set_cons_zero, List.set_cons_succ, List.getElem_toArray, List.getElem_cons_succ, List.getElem_cons_zero])
          refine wpAnyH_take (i := 7) (v := ?_) rfl (by kernel_rfl) (by kernel_rfl) (by kernel_rfl) (fun _ _ _ h => h) (Or.inl ⟨by rfl, ?_⟩) (by assumption) ?_
          rotate_left
          · ((intro w hSw); (first | (go_simp; done) | (go_simp; with_reducible rfl)))
          (try simp only [Act.put, List.setIfInBounds_toArray, List.set_cons_zero, List.set_cons_succ, List.getElem_toArray, List.getElem_cons_succ, List.getElem_cons_zero])
          refine wpAnyH_ready (rs := [3]) (by kernel_rfl) (by simp) ?_
          refine AllReadyH.cons rfl (fun K hK => ?_) AllReadyH.nil
          go_simp
          (refine (KS.out _).mono ?_; rintro e w5 ⟨rfl, ho⟩; have HR6 := Lib.hid (HR5.out.only ho); clear ho; have KP := Lib.hid (HR6.out.evict HK.out); unfold Ptr at KP)
          (try go_wp2_with fail)
          refine hK.out _ _ (HR6.out.box.2.1) (fun hHeld => ?_)
          clear hK K
          (try simp only [Act.put, List.setIfInBounds_toArray, List.set_cons_zero, List.set_cons_succ, List.getElem_toArray, List.getElem_cons_succ, List.getElem_cons_zero])
          refine wpAnyH_ready (rs := [4]) (by kernel_rfl) (by simp) ?_
          refine AllReadyH.cons rfl (fun K hK => ?_) AllReadyH.nil
          go_simp
          (refine KP.out.mono ?_; rintro e w6 ⟨rfl, ho⟩; have HR7 := Lib.hid ho; clear ho KP)
          (try go_wp2_with fail)
          refine hK.out _ _ (HR7.out.box.2.1) (fun hHeld => ?_)
          clear hK K
          (try simp only [Act.put, List.setIfInBounds_toArray, List.set_cons_zero, List.set_cons_succ, List.getElem_toArray, List.getElem_cons_succ, List.getElem_cons_zero])
          refine wpAnyH_ready (rs := [8]) (by kernel_rfl) (by simp) ?_
          refine AllReadyH.cons rfl (fun K hK => ?_) AllReadyH.nil
          go_simp
          (refine (KS.out _).mono ?_; rintro e w7 ⟨rfl, ho⟩; have HR8 := Lib.hid (HR7.out.only ho); clear ho; have KP := Lib.hid (HR8.out.revict HK.out HOK.out); unfold Ptr at KP)
          (try go_wp2_with fail)
          refine hK.out _ _ (HR8.out.box.2.1) (fun hHeld => ?_)
          clear hK K
          (try simp only [Act.put, List.setIfInBounds_toArray, List.set_cons_zero, List.set_cons_succ, List.getElem_toArray, List.getElem_cons_succ, List.getElem_cons_zero])
          refine wpAnyH_ready (rs := [9]) (by kernel_rfl) (by simp) ?_
          refine AllReadyH.cons rfl (fun K hK => ?_) AllReadyH.nil
          go_simp
          (refine KP.out.mono ?_; rintro e w8 ⟨rfl, G8, G9, ho⟩; have HR9 := Lib.hid ho; clear ho KP)
          (try go_wp2_with fail)
          refine hK.out _ _ (HR9.out.box.2.1) (fun hHeld => ?_)
          clear hK K
          (try simp only [Act.put, List.setIfInBounds_toArray, List.set_cons_zero, List.set_cons_succ, List.getElem_toArray, List.getElem_cons_succ, List.getElem_cons_zero])
          refine wpAnyH_take (i := 10) (v := ?_) rfl (by kernel_rfl) (by kernel_rfl) (by kernel_rfl) (fun _ _ _ h => h) (Or.inl ⟨by rfl, ?_⟩) (by assumption) ?_
          rotate_left
          · ((intro w hSw); (first | (go_simp; done) | (go_simp; with_reducible rfl)))
          (try simp only [Act.put, List.setIfInBounds_toArray, List.set_cons_zero, List.set_cons_succ, List.getElem_toArray, List.getElem_cons_succ, List.getElem_cons_zero])
          refine wpAnyH_take (i := 11) (v := ?_) rfl (by kernel_rfl) (by kernel_rfl) (by kernel_rfl) (fun _ _ _ h => h) (Or.inl ⟨by rfl, ?_⟩) (by assumption) ?_
          rotate_left
          · ((intro w hSw); (first | (go_simp; done) | (go_simp; with_reducible rfl)))
          (try simp only [Act.put, List.setIfInBounds_toArray, List.set_cons_zero, List.set_cons_succ, List.getElem_toArray, List.getElem_cons_succ, List.getElem_cons_zero])
          refine wpAnyH_done (by kernel_rfl) ?_ _
          refine NoPanic.normal ?_
          go_wp2
          go_meet
          exact ⟨_, rfl, rfl, _, _, _, HR9⟩
        · as_aux_lemma =>
          rw [t] at hw
          have KD := Lib.hid (HR4.out.does HI.out t HX.out.1 (by have := HX.out.2; omega))
          clear HX HV4 HR4
          unfold Ptr D.cells at KD
          go_wp2_with fail
          refine KD.out.mono ?_
          rintro e w5 ⟨rfl, hr5⟩
          clear KD d0 d1 d2 d3
          obtain ⟨d0, d1, d2, d3⟩ := hr5.box
          by_cases hn : d.n = 0
          · rw [if_pos hn] at hr5
            rw [hn] at d3
            obtain ⟨old, hc1, hf1, hr6⟩ := Rnd.wipe (L := L) hr5
            have HR6 := Lib.hid hr6
            clear hr6 hr5 hn d0 d1 d2
            go_wp2
            go_meet
            exact ⟨_, rfl, rfl, _, _, _, HR6⟩
          · rw [if_neg hn] at hr5
            have HR9 := Lib.hid hr5
            have hn2 : (d.n == 0) = false := by simpa using hn
            clear hr5 d0 d1 d2
            go_wp2
            go_meet
            exact ⟨_, rfl, rfl, _, _, _, HR9⟩
        · as_aux_lemma =>
          have dv := HV4.out.1.cell
          obtain ⟨p3, p4, p5, p6, p7⟩ : d.op % 8 ≠ 3 ∧ d.op % 8 ≠ 4 ∧ d.op % 8 ≠ 5 ∧ d.op % 8 ≠ 6 ∧ d.op % 8 ≠ 7 := by omega
          clear t
          generalize d.op % 8 = t0 at hw p3 p4 p5 p6 p7
          have b3 : (t0 == 3) = false := by simpa using p3
          have b4 : (t0 == 4) = false := by simpa using p4
          have b5 : (t0 == 5) = false := by simpa using p5
          have b6 : (t0 == 6) = false := by simpa using p6
          have b7 : (t0 == 7) = false := by simpa using p7
          clear p3 p4 p5 p6 p7
          go_upto_region 14 with fail
          have hz : Only (fun _ => False) w4 w4.drew := (Only.refl (fun _ => False) _).drew
          have HR5 := Lib.hid (And.intro (HR4.out.only hz) (And.intro (HV4.out.1.only hz) (HV4.out.2.frame' hz)))
          clear HR4 HV4 hw d0 d3 hz b3 b4 b5 b6 b7
          refine wp_region_noPanic ?_
          refine wp_region_held_drew (S := (fun w' => w'.cell? ⟨g, 1, none⟩ = some (.int .i64 d.id) ∧ w'.cell? ⟨g, 2, none⟩ = some (.slice d.ao d.b.length d.cap) ∧ w'.cell? ⟨g + 1, 2, none⟩ = some (.slice bo d.b.length cb))) (by kernel_rfl) (⟨d1, d2, dv⟩) (fun hHeld => ?_)
          refine wpAnyH_take (i := 0) (v := ?_) rfl (by kernel_rfl) (by kernel_rfl) (by kernel_rfl) (fun _ _ _ h => h) (Or.inl ⟨by rfl, ?_⟩) (by assumption) ?_
          rotate_left
          · ((intro w hSw); (first | (go_simp; done) | (go_simp; with_reducible rfl)))
          (try simp only [Act.put, List.setIfInBounds_toArray, List.set_cons_zero, List.set_cons_succ, List.getElem_toArray, List.getElem_cons_succ, List.getElem_cons_zero])
          refine wpAnyH_take (i := 1) (v := ?_) rfl (by kernel_rfl) (by kernel_rfl) (by kernel_rfl) (fun _ _ _ h => h) (Or.inl ⟨by rfl, ?_⟩) (by assumption) ?_
          rotate_left
          · ((intro w hSw); (first | (go_simp; done) | (go_simp; with_reducible rfl)))
          (try simp only [Act.put, List.setIfInBounds_toArray, List.set_cons_zero, List.set_cons_succ, List.getElem_toArray, List.getElem_cons_succ, List.getElem_cons_zero])
          refine wpAnyH_take (i := 2) (v := ?_) rfl (by kernel_rfl) (by kernel_rfl) (by kernel_rfl) (fun _ _ _ h => h) (Or.inl ⟨by rfl, ?_⟩) (by assumption) ?_
          rotate_left
          · ((intro w hSw); (first | (go_simp; done) | (go_simp; with_reducible rfl)))
          (try simp only [Act.put, List.setIfInBounds_toArray, List.set_cons_zero, List.set_cons_succ, List.getElem_toArray, List.getElem_cons_succ, List.getElem_cons_zero])
          refine wpAnyH_take (i := 4) (v := ?_) rfl (by kernel_rfl) (by kernel_rfl) (by kernel_rfl) (fun _ _ _ h => h) (Or.inl ⟨by rfl, ?_⟩) (by assumption) ?_
          rotate_left
          · ((intro w hSw); (first | (go_simp; done) | (go_simp; with_reducible rfl)))
          (try simp only [Act.put, List.setIfInBounds_toArray, List.set_cons_zero, List.set_cons_succ, List.getElem_toArray, List.getElem_cons_succ, List.getElem_cons_zero])
          refine wpAnyH_take (i := 5) (v := ?_) rfl (by kernel_rfl) (by kernel_rfl) (by kernel_rfl) (fun _ _ _ h => h) (Or.inl ⟨by rfl, ?_⟩) (by assumption) ?_
          rotate_left
          · ((intro w hSw); (first | (go_simp; done) | (go_simp; with_reducible rfl)))
          (try simp only [Act.put, List.setIfInBounds_toArray, List.set_cons_zero, List.set_cons_succ, List.getElem_toArray, List.getElem_cons_succ, List.getElem_cons_zero])
          refine wpAnyH_take (i := 7) (v := ?_) rfl (by kernel_rfl) (by kernel_rfl) (by kernel_rfl) (fun _ _ _ h => h) (Or.inl ⟨by rfl, ?_⟩) (by assumption) ?_
          rotate_left
          · ((intro w hSw); (first | (go_simp; done) | (go_simp; with_reducible rfl)))
          (try simp only [Act.put, List.setIfInBounds_toArray, List.set_cons_zero, List.set_cons_succ, List.getElem_toArray, List.getElem_cons_succ, List.getElem_cons_zero])
          refine wpAnyH_take (i := 8) (v := ?_) rfl (by kernel_rfl) (by kernel_rfl) (by kernel_rfl) (fun _ _ _ h => h) (Or.inl ⟨by rfl, ?_⟩) (by assumption) ?_
          rotate_left
          · ((intro w hSw); (first | (go_simp; done) | (go_simp; with_reducible rfl)))
          (try simp only [Act.put, List.setIfInBounds_toArray, List.set_cons_zero, List.set_cons_succ, List.getElem_toArray, List.getElem_cons_succ, List.getElem_cons_zero])
          refine wpAnyH_take (i := 9) (v := ?_) rfl (by kernel_rfl) (by kernel_rfl) (by kernel_rfl) (fun _ _ _ h => h) (Or.inl ⟨by rfl, ?_⟩) (by assumption) ?_
          rotate_left
          · ((intro w hSw); (first | (go_simp; done) | (go_simp; with_reducible rfl)))
          (try simp only [Act.put, List.setIfInBounds_toArray, List.set_cons_zero, List.set_cons_succ, List.getElem_toArray, List.getElem_cons_succ, List.getElem_cons_zero])
          refine wpAnyH_take (i := 11) (v := ?_) rfl (by kernel_rfl) (by kernel_rfl) (by kernel_rfl) (fun _ _ _ h => h) (Or.inl ⟨by rfl, ?_⟩) (by assumption) ?_
          rotate_left
          · ((intro w hSw); (first | (go_simp; done) | (go_simp; with_reducible rfl)))
          (try simp only [Act.put, List.setIfInBounds_toArray, List.set_cons_zero, List.set_cons_succ, List.getElem_toArray, List.getElem_cons_succ, List.getElem_cons_zero])
          refine wpAnyH_take (i := 12) (v := ?_) rfl (by kernel_rfl) (by kernel_rfl) (by kernel_rfl) (fun _ _ _ h => h) (Or.inl ⟨by rfl, ?_⟩) (by assumption) ?_
          rotate_left
          · ((intro w hSw); (first | (go_simp; done) | (go_simp; with_reducible rfl)))
          (try simp only [Act.put, List.setIfInBounds_toArray, List.set_cons_zero, List.set_cons_succ, List.getElem_toArray, List.getElem_cons_succ, List.getElem_cons_zero])
          refine wpAnyH_ready (rs := [3]) (by kernel_rfl) (by simp) ?_
          refine AllReadyH.cons rfl (fun K hK => ?_) AllReadyH.nil
          go_simp
          (refine (KS.out _).mono ?_; rintro e w5 ⟨rfl, ho⟩; have HR6 := Lib.hid (And.intro (HR5.out.1.only ho) (HR5.out.2.1.only ho)); have KP := Lib.hid (HR6.out.1.put HR6.out.2 HK.out (HR5.out.2.2.frame' ho) cb (by have := HX.out.2; omega)); clear ho; unfold Ptr at KP)
          (try go_wp2_with fail)
          refine hK.out _ _ (⟨HR6.out.1.box.2.1, HR6.out.1.box.2.2.1, HR6.out.2.cell⟩) (fun hHeld => ?_)
          clear hK K
          (try simp only [Act.put, List.setIfInBounds_toArray, List.set_cons_zero, List.set_cons_succ, List.getElem_toArray, List.getElem_cons_succ, List.getElem_cons_zero])
          refine wpAnyH_ready (rs := [6]) (by kernel_rfl) (by simp) ?_
          refine AllReadyH.cons rfl (fun K hK => ?_) AllReadyH.nil
          go_simp
          (refine KP.out.mono ?_; rintro e w6 ⟨rfl, ho⟩; have HR7 := Lib.hid ho; clear ho KP)
          (try go_wp2_with fail)
          refine hK.out _ _ (⟨HR7.out.1.box.2.1, HR7.out.1.box.2.2.1, HR7.out.2.cell⟩) (fun hHeld => ?_)
          clear hK K
          (try simp only [Act.put, List.setIfInBounds_toArray, List.set_cons_zero, List.set_cons_succ, List.getElem_toArray, List.getElem_cons_succ, List.getElem_cons_zero])
          refine wpAnyH_ready (rs := [10]) (by kernel_rfl) (by simp) ?_
          refine AllReadyH.cons rfl (fun K hK => ?_) AllReadyH.nil
          go_simp
          (refine (KS.out _).mono ?_; rintro e w7 ⟨rfl, ho⟩; have HR8 := Lib.hid (And.intro (HR7.out.1.only ho) (HR7.out.2.only ho)); clear ho; have KP := Lib.hid (HR8.out.1.rput HR8.out.2 HK.out HOK.out (HX.out.1.frame' HR8.out.1.mine.only) d.cap (by have := HX.out.2; omega)); unfold Ptr at KP)
          (try go_wp2_with fail)
          refine hK.out _ _ (⟨HR8.out.1.box.2.1, HR8.out.1.box.2.2.1, HR8.out.2.cell⟩) (fun hHeld => ?_)
          clear hK K
          (try simp only [Act.put, List.setIfInBounds_toArray, List.set_cons_zero, List.set_cons_succ, List.getElem_toArray, List.getElem_cons_succ, List.getElem_cons_zero])
          refine wpAnyH_ready (rs := [13]) (by kernel_rfl) (by simp) ?_
          refine AllReadyH.cons rfl (fun K hK => ?_) AllReadyH.nil
          go_simp
          (refine KP.out.mono ?_; rintro e w8 ⟨rfl, G8, G9, ho⟩; have HRV := Lib.hid ho; clear ho KP)
          (try go_wp2_with fail)
          refine hK.out _ _ (⟨HRV.out.1.box.2.1, HRV.out.1.box.2.2.1, HRV.out.2.cell⟩) (fun hHeld => ?_)
          clear hK K
          (try simp only [Act.put, List.setIfInBounds_toArray, List.set_cons_zero, List.set_cons_succ, List.getElem_toArray, List.getElem_cons_succ, List.getElem_cons_zero])
          refine wpAnyH_take (i := 14) (v := ?_) rfl (by kernel_rfl) (by kernel_rfl) (by kernel_rfl) (fun _ _ _ h => h) (Or.inl ⟨by rfl, ?_⟩) (by assumption) ?_
          rotate_left
          · ((intro w hSw); (first | (go_simp; done) | (go_simp; with_reducible rfl)))
          (try simp only [Act.put, List.setIfInBounds_toArray, List.set_cons_zero, List.set_cons_succ, List.getElem_toArray, List.getElem_cons_succ, List.getElem_cons_zero])
          refine wpAnyH_take (i := 15) (v := ?_) rfl (by kernel_rfl) (by kernel_rfl) (by kernel_rfl) (fun _ _ _ h => h) (Or.inl ⟨by rfl, ?_⟩) (by assumption) ?_
          rotate_left
          · ((intro w hSw); (first | (go_simp; done) | (go_simp; with_reducible rfl)))
          (try simp only [Act.put, List.setIfInBounds_toArray, List.set_cons_zero, List.set_cons_succ, List.getElem_toArray, List.getElem_cons_succ, List.getElem_cons_zero])
          refine wpAnyH_done (by kernel_rfl) ?_ _
          refine NoPanic.normal ?_
          have dv := HRV.out.2.cell
          clear HR5 HR6 HR7 HR8 d1 d2
          generalize putL n1 r1 (keyOf d.id) d.b L = M at *
          generalize putE n1 r1 (keyOf d.id) d.b.length L = E at *
          go_wp2_with fail
          clear dv
          have HNB := Lib.hid HX.out.2
          generalize d.b.length = n at *
          go_loopg [85] n (fun gg v wl => ∃ j : Nat, v = .int .i64 j ∧ Hid (j + gg = n ∧ Rnd W wl a rr n1 r1 (i + 1) M M G8 G9 d g ∧ Giv wl G8 G9 (.slice bo n cb) n g))
          case atStart => exact ⟨0, rfl, Lib.hid ⟨by omega, HRV.out.1, HRV.out.2⟩⟩
          case round =>
            obtain ⟨j, rfl, hh⟩ := hrel
            obtain ⟨hjg, hrj, hmj⟩ := hh.out
            clear hh HRV
            by_cases hj : j < n
            · have hj' : (j : Int) < (n : Int) := by omega
              have hnb := HNB.out
              have c0 : (0 : Int) ≤ j := by omega
              obtain ⟨y, cap2, c, hve, hc1, hf1, hnx⟩ := hmj.at hrj hj
              have dv := hmj.cell
              simp only [Value.slice.injEq] at hve
              obtain ⟨rfl, -, rfl⟩ := hve
              have HNX := Lib.hid hnx
              clear hnx hmj hrj
              go_wp2_with fail
              go_roundg (n - (j + 1))
              case measure => omega
              case rel => exact ⟨j + 1, by go_num, Lib.hid ⟨by omega, (HNX.out _).2, (HNX.out _).1⟩⟩
            · have hj' : ¬ (j : Int) < (n : Int) := by omega
              have HR9 := Lib.hid hrj
              clear hmj hrj
              go_wp2
              go_meet
              exact ⟨_, rfl, rfl, _, _, _, HR9⟩
      · have hi' : ¬ (i : Int) < (ds.length : Int) := by omega
        have HO := Lib.hid hp.mine.only
        clear hp
        go_wp2_with fail
        refine (HAW.out _).mono ?_
        rintro e w4 ⟨rfl, ho⟩
        have HO4 := Lib.hid (HO.out.trans ho); clear ho
        go_wp2
        go_ret
        exact ⟨rfl, HO4.out⟩
end Go.Proofs.Ytafeiankpckijaa
